/- The shallow forms of the functions, by a program of mine (wip/tool/gen.py). -/
import Derived.Test.YtoaobmfffcipfaaVE
import Derived.Test.YtoaobmfffcipfaaChecked
set_option linter.unusedVariables false
set_option maxRecDepth 100000
namespace Go.Proofs.Ytoaobmfffcipfaa.V
open Go Go.Proofs
theorem mixed : Try.prog.follows .mixedOrders = true := by kernel_rfl

/-- shadowbook/shadowbooklaw02.lives -/
def an9 : Ann := (.seq .nil (.seq .nil .nil))
def S9  (K : Value → WP) : WP := 
  newW (.cells #[(.int .u8 (49 : Int)), (.int .u8 (50 : Int)), (.int .u8 (51 : Int)), (.int .u8 (52 : Int)), (.int .u8 (53 : Int)), (.int .u8 (54 : Int)), (.int .u8 (55 : Int)), (.int .u8 (56 : Int)), (.int .u8 (57 : Int))] 5) fun (r1 : Nat) =>
  runW Try.prog (Go.convert 22 22 (.slice (some (⟨r1, 0, none⟩ : Addr)) 9 9)) .slc fun (u2 : (Option Addr × Nat × Nat)) =>
  callW Try.prog 10 [(.slice u2.1 u2.2.1 u2.2.2)] (.one (.one (.int .u32))) fun (u3 : Int) => K (.bool (u3 == (3808858755 : Int)))
theorem eq9  (K : Value → WP) : bodyW Try.prog Try.f9 an9 false [] K = S9  K := by kernel_rfl
theorem calls9  {K : Value → WP} {w : World} (h : S9  K w) : Calls Try.prog 9 #[] w (Ret K) := callsR_of_bodyW mixed Try.func9 (of_decide_eq_true (by kernel_rfl)) (by rw [eq9]; exact h)

/-- shadowbook/crc.Of -/
def an10 : Ann := (.seq .nil (.seq .nil .nil))
def S10 (a0 : Option Addr) (n0 c0 : Nat) (K : Value → WP) : WP := 
  callW Try.prog 13 [] (.one (.arr 256)) fun (u1 : Array Value) =>
  callW Try.prog 15 [(.agg u1), (.slice a0 n0 c0)] (.one (.one (.int .u32))) fun (u2 : Int) => K (.int .u32 u2)
theorem eq10 (a0 : Option Addr) (n0 c0 : Nat) (K : Value → WP) : bodyW Try.prog Try.f10 an10 false [(.slice a0 n0 c0)] K = S10 a0 n0 c0 K := by kernel_rfl
theorem calls10 (a0 : Option Addr) (n0 c0 : Nat) {K : Value → WP} {w : World} (h : S10 a0 n0 c0 K w) : Calls Try.prog 10 #[(.slice a0 n0 c0)] w (Ret K) := callsR_of_bodyW mixed Try.func10 (of_decide_eq_true (by kernel_rfl)) (by rw [eq10]; exact h)

/-- shadowbook/shadowbookref01.Put -/
def an11 : Ann := (.seq .nil (.seq (.seq .nil (.cond (.seq .nil .nil) .nil)) (.seq (.seq .nil (.block (.loop [(0, .sh (.one .slc)), (7, .sh (.one (.int .i64)))] [1, 2, 1000000] (.seq (.seq .nil (.cond .nil .nil)) (.seq (.block .nil) .nil))))) (.seq .nil .nil))))
def S11 (a0 : Option Addr) (n0 c0 : Nat) (x1 : Int) (x2 : Int) (K : Value → WP) : WP := 
  splitW (decide (x2 < (1 : Int))) (K (.slice a0 n0 c0)) <|
  splitW (decide (x2 > (8 : Int))) (K (.slice a0 n0 c0)) <|
  loopW ((Option Addr × Nat × Nat) × Int × Unit) ((a0, n0, c0), (0 : Int), ()) fun (y2 : (Option Addr × Nat × Nat) × Int × Unit) (I1 : ((Option Addr × Nat × Nat) × Int × Unit) → WP) =>
  splitW (decide (y2.2.1 < x2)) (guardW (0 ≤ (IntKind.wrap .u64 (IntKind.wrap .i64 ((8 : Int) * y2.2.1)))) <|
  newW (.cells #[(.int .u8 (IntKind.wrap .u8 (ishr .u64 x1 (IntKind.wrap .u64 (IntKind.wrap .i64 ((8 : Int) * y2.2.1))))))] 5) fun (r3 : Nat) =>
  runW Try.prog (Builtin.append_ #[22, 22] 22 #[(.slice y2.1.1 y2.1.2.1 y2.1.2.2), (.slice (some (⟨r3, 0, none⟩ : Addr)) 1 1)]) .slc fun (u4 : (Option Addr × Nat × Nat)) => I1 ((u4.1, u4.2.1, u4.2.2), (IntKind.wrap .i64 (y2.2.1 + (1 : Int))), ())) <| K (.slice y2.1.1 y2.1.2.1 y2.1.2.2)
theorem eq11 (a0 : Option Addr) (n0 c0 : Nat) (x1 : Int) (x2 : Int) (K : Value → WP) : bodyW Try.prog Try.f11 an11 false [(.slice a0 n0 c0), (.int .u64 x1), (.int .i64 x2)] K = S11 a0 n0 c0 x1 x2 K := by kernel_rfl
theorem calls11 (a0 : Option Addr) (n0 c0 : Nat) (x1 : Int) (x2 : Int) {K : Value → WP} {w : World} (h : S11 a0 n0 c0 x1 x2 K w) : Calls Try.prog 11 #[(.slice a0 n0 c0), (.int .u64 x1), (.int .i64 x2)] w (Ret K) := callsR_of_bodyW mixed Try.func11 (of_decide_eq_true (by kernel_rfl)) (by rw [eq11]; exact h)

/-- shadowbook/shadowbookkit.Own[byte] -/
def an12 : Ann := (.seq .nil (.seq .nil .nil))
def S12 (a0 : Option Addr) (n0 c0 : Nat) (K : Value → WP) : WP := 
  newW (.cells #[] 5) fun (r1 : Nat) =>
  runW Try.prog (Builtin.append_ #[22, 22] 22 #[(.slice (some (⟨r1, 0, none⟩ : Addr)) 0 0), (.slice a0 n0 c0)]) .slc fun (u2 : (Option Addr × Nat × Nat)) => K (.slice u2.1 u2.2.1 u2.2.2)
theorem eq12 (a0 : Option Addr) (n0 c0 : Nat) (K : Value → WP) : bodyW Try.prog Try.f12 an12 false [(.slice a0 n0 c0)] K = S12 a0 n0 c0 K := by kernel_rfl
theorem calls12 (a0 : Option Addr) (n0 c0 : Nat) {K : Value → WP} {w : World} (h : S12 a0 n0 c0 K w) : Calls Try.prog 12 #[(.slice a0 n0 c0)] w (Ret K) := callsR_of_bodyW mixed Try.func12 (of_decide_eq_true (by kernel_rfl)) (by rw [eq12]; exact h)

/-- shadowbook/crc.Table -/
def an13 : Ann := (.seq .nil (.seq (.seq .nil (.block (.loop [(3, .sh (.one (.int .i64)))] [0, 1000000] (.seq .nil (.seq (.cond .nil .nil) (.seq (.block (.seq .nil (.seq .nil (.seq (.seq .nil (.block (.loop [(2, .sh (.one (.int .u32))), (8, .sh (.one (.int .i64)))] [0, 1, 3, 1000000] (.seq .nil (.seq (.cond .nil .nil) (.seq (.block .nil) .nil)))))) .nil)))) .nil)))))) (.seq .nil .nil)))
def S13  (K : Value → WP) : WP := 
  newW (.cells (zeroC Try.prog 31) 31) fun (r1 : Nat) =>
  loopW (Int × Unit) ((0 : Int), ()) fun (y3 : Int × Unit) (I2 : (Int × Unit) → WP) =>
  splitW (decide (y3.1 < (256 : Int))) (loopW (Int × Int × Unit) ((IntKind.wrap .u32 y3.1), (0 : Int), ()) fun (y5 : Int × Int × Unit) (I4 : (Int × Int × Unit) → WP) =>
  splitW (decide (y5.2.1 < (8 : Int))) (I4 ((ixor .u32 (ishr .u32 y5.1 (1 : Int)) (IntKind.wrap .u32 ((2197175160 : Int) * (iand .u32 y5.1 (1 : Int))))), (IntKind.wrap .i64 (y5.2.1 + (1 : Int))), ())) <|
  guardW (0 ≤ y3.1 ∧ y3.1 < ((256 : Nat) : Int)) <|
  stW ((⟨r1, 0, none⟩ : Addr).add (Int.toNat y3.1 * 1)) (.int .u32 y5.1) <| I2 ((IntKind.wrap .i64 (y3.1 + (1 : Int))), ())) <|
  ldRW 256 (⟨r1, 0, none⟩ : Addr) fun (u6 : Array Value) =>
  guardW (u6.size = 256) <|
  stAW (⟨r1, 0, none⟩ : Addr) u6.toList <|
  ldRW 256 (⟨r1, 0, none⟩ : Addr) fun (u7 : Array Value) => K (.agg u7)
theorem eq13  (K : Value → WP) : bodyW Try.prog Try.f13 an13 false [] K = S13  K := by kernel_rfl
theorem calls13  {K : Value → WP} {w : World} (h : S13  K w) : Calls Try.prog 13 #[] w (Ret K) := callsR_of_bodyW mixed Try.func13 (of_decide_eq_true (by kernel_rfl)) (by rw [eq13]; exact h)

/-- shadowbook/crc.Flip -/
def an14 : Ann := (.seq .nil (.seq .nil (.join [(9, .sh (.one .slc))] [1, 2, 3, 1000000] (.seq .nil (.cond .nil .nil)) (.seq (.seq .nil (.cond (.seq .nil .nil) .nil)) (.seq (.seq .nil (.block (.loop [(29, .sh (.one (.int .i64)))] [1, 3, 9, 28, 1000000] (.seq .nil (.seq (.cond .nil .nil) (.seq (.block (.seq .nil (.seq .nil (.seq (.seq .nil (.cond .nil .nil)) .nil)))) .nil)))))) (.seq .nil .nil))))))
def S14 (a0 : Option Addr) (n0 c0 : Nat) (x1 : Int) (x2 : Int) (x3 : Int) (K : Value → WP) : WP := 
  callW Try.prog 25 [(.slice a0 n0 c0)] (.one (.one .slc)) fun (u1 : (Option Addr × Nat × Nat)) =>
  joinW ((Option Addr × Nat × Nat) × Unit) (fun (J2 : ((Option Addr × Nat × Nat) × Unit) → WP) =>
  splitW (Option.isNone u1.1) (newW (.cells #[] 5) fun (r4 : Nat) => J2 (((some (⟨r4, 0, none⟩ : Addr)), 0, 0), ())) <| J2 ((u1.1, u1.2.1, u1.2.2), ())) fun (y3 : (Option Addr × Nat × Nat) × Unit) =>
  splitW (decide (x1 < (0 : Int))) (K (.slice y3.1.1 y3.1.2.1 y3.1.2.2)) <|
  splitW (decide (x2 < (0 : Int))) (K (.slice y3.1.1 y3.1.2.1 y3.1.2.2)) <|
  splitW (decide (x2 > (32 : Int))) (K (.slice y3.1.1 y3.1.2.1 y3.1.2.2)) <|
  loopW (Int × Unit) ((0 : Int), ()) fun (y6 : Int × Unit) (I5 : (Int × Unit) → WP) =>
  splitW (decide (y6.1 < x2)) (splitW (decide ((IntKind.wrap .i64 ((IntKind.wrap .i64 (Int.tdiv x1 (8 : Int))) + (IntKind.wrap .i64 (Int.tdiv (IntKind.wrap .i64 ((Int.tmod x1 (8 : Int)) + y6.1)) (8 : Int))))) ≥ ((y3.1.2.1 : Nat) : Int))) (K (.slice y3.1.1 y3.1.2.1 y3.1.2.2)) <|
  drewW <|
  guardW (0 ≤ (IntKind.wrap .i64 ((IntKind.wrap .i64 (Int.tdiv x1 (8 : Int))) + (IntKind.wrap .i64 (Int.tdiv (IntKind.wrap .i64 ((Int.tmod x1 (8 : Int)) + y6.1)) (8 : Int))))) ∧ (IntKind.wrap .i64 ((IntKind.wrap .i64 (Int.tdiv x1 (8 : Int))) + (IntKind.wrap .i64 (Int.tdiv (IntKind.wrap .i64 ((Int.tmod x1 (8 : Int)) + y6.1)) (8 : Int))))) < ((y3.1.2.1 : Nat) : Int)) <|
  ptrW y3.1.1 fun (p7 : Addr) =>
  ldW (.int .u8) (p7.add (Int.toNat (IntKind.wrap .i64 ((IntKind.wrap .i64 (Int.tdiv x1 (8 : Int))) + (IntKind.wrap .i64 (Int.tdiv (IntKind.wrap .i64 ((Int.tmod x1 (8 : Int)) + y6.1)) (8 : Int))))) * 1)) fun (u8 : Int) =>
  guardW (0 ≤ y6.1) <|
  guardW (0 ≤ (Int.tmod (IntKind.wrap .i64 (x1 + y6.1)) (8 : Int))) <|
  guardW (0 ≤ (IntKind.wrap .i64 ((IntKind.wrap .i64 (Int.tdiv x1 (8 : Int))) + (IntKind.wrap .i64 (Int.tdiv (IntKind.wrap .i64 ((Int.tmod x1 (8 : Int)) + y6.1)) (8 : Int))))) ∧ (IntKind.wrap .i64 ((IntKind.wrap .i64 (Int.tdiv x1 (8 : Int))) + (IntKind.wrap .i64 (Int.tdiv (IntKind.wrap .i64 ((Int.tmod x1 (8 : Int)) + y6.1)) (8 : Int))))) < ((y3.1.2.1 : Nat) : Int)) <|
  ptrW y3.1.1 fun (p9 : Addr) =>
  stW (p9.add (Int.toNat (IntKind.wrap .i64 ((IntKind.wrap .i64 (Int.tdiv x1 (8 : Int))) + (IntKind.wrap .i64 (Int.tdiv (IntKind.wrap .i64 ((Int.tmod x1 (8 : Int)) + y6.1)) (8 : Int))))) * 1)) (.int .u8 (ixor .u8 u8 (ishl .u8 (IntKind.wrap .u8 (iand .u32 (ishr .u32 x3 y6.1) (1 : Int))) (Int.tmod (IntKind.wrap .i64 (x1 + y6.1)) (8 : Int))))) <| I5 ((IntKind.wrap .i64 (y6.1 + (1 : Int))), ())) <| K (.slice y3.1.1 y3.1.2.1 y3.1.2.2)
theorem eq14 (a0 : Option Addr) (n0 c0 : Nat) (x1 : Int) (x2 : Int) (x3 : Int) (K : Value → WP) : bodyW Try.prog Try.f14 an14 false [(.slice a0 n0 c0), (.int .i64 x1), (.int .i64 x2), (.int .u32 x3)] K = S14 a0 n0 c0 x1 x2 x3 K := by kernel_rfl
theorem calls14 (a0 : Option Addr) (n0 c0 : Nat) (x1 : Int) (x2 : Int) (x3 : Int) {K : Value → WP} {w : World} (h : S14 a0 n0 c0 x1 x2 x3 K w) : Calls Try.prog 14 #[(.slice a0 n0 c0), (.int .i64 x1), (.int .i64 x2), (.int .u32 x3)] w (Ret K) := callsR_of_bodyW mixed Try.func14 (of_decide_eq_true (by kernel_rfl)) (by rw [eq14]; exact h)

/-- shadowbook/crc.Sum -/
def an15 : Ann := (.seq .nil (.seq .nil .nil))
def S15 (x0 : Array Value) (a1 : Option Addr) (n1 c1 : Nat) (K : Value → WP) : WP := 
  newW (.cells x0 31) fun (r1 : Nat) =>
  ldRW 256 (⟨r1, 0, none⟩ : Addr) fun (u2 : Array Value) =>
  callW Try.prog 16 [(.agg u2), (.int .u32 (4294967295 : Int)), (.slice a1 n1 c1)] (.one (.one (.int .u32))) fun (u3 : Int) => K (.int .u32 (inot .u32 u3))
theorem eq15 (x0 : Array Value) (a1 : Option Addr) (n1 c1 : Nat) (K : Value → WP) : bodyW Try.prog Try.f15 an15 false [(.agg x0), (.slice a1 n1 c1)] K = S15 x0 a1 n1 c1 K := by kernel_rfl
theorem calls15 (x0 : Array Value) (a1 : Option Addr) (n1 c1 : Nat) {K : Value → WP} {w : World} (h : S15 x0 a1 n1 c1 K w) : Calls Try.prog 15 #[(.agg x0), (.slice a1 n1 c1)] w (Ret K) := callsR_of_bodyW mixed Try.func15 (of_decide_eq_true (by kernel_rfl)) (by rw [eq15]; exact h)

/-- shadowbook/crc.Update -/
def an16 : Ann := (.seq .nil (.seq (.seq .nil (.block (.loop [(1, .sh (.one (.int .u32))), (11, .sh (.one (.int .i64)))] [3, 9, 10, 1000000] (.seq .nil (.seq (.cond .nil .nil) (.seq (.block (.seq .nil .nil)) .nil)))))) (.seq .nil .nil)))
def S16 (x0 : Array Value) (x1 : Int) (a2 : Option Addr) (n2 c2 : Nat) (K : Value → WP) : WP := 
  newW (.cells x0 31) fun (r1 : Nat) =>
  loopW (Int × Int × Unit) (x1, (0 : Int), ()) fun (y3 : Int × Int × Unit) (I2 : (Int × Int × Unit) → WP) =>
  splitW (decide (y3.2.1 < ((n2 : Nat) : Int))) (guardW (0 ≤ y3.2.1 ∧ y3.2.1 < ((n2 : Nat) : Int)) <|
  ptrW a2 fun (p4 : Addr) =>
  ldW (.int .u8) (p4.add (Int.toNat y3.2.1 * 1)) fun (u5 : Int) =>
  guardW (0 ≤ (ixor .u8 (IntKind.wrap .u8 y3.1) u5) ∧ (ixor .u8 (IntKind.wrap .u8 y3.1) u5) < ((256 : Nat) : Int)) <|
  ldW (.int .u32) ((⟨r1, 0, none⟩ : Addr).add (Int.toNat (ixor .u8 (IntKind.wrap .u8 y3.1) u5) * 1)) fun (u6 : Int) => I2 ((ixor .u32 (ishr .u32 y3.1 (8 : Int)) u6), (IntKind.wrap .i64 (y3.2.1 + (1 : Int))), ())) <| K (.int .u32 y3.1)
theorem eq16 (x0 : Array Value) (x1 : Int) (a2 : Option Addr) (n2 c2 : Nat) (K : Value → WP) : bodyW Try.prog Try.f16 an16 false [(.agg x0), (.int .u32 x1), (.slice a2 n2 c2)] K = S16 x0 x1 a2 n2 c2 K := by kernel_rfl
theorem calls16 (x0 : Array Value) (x1 : Int) (a2 : Option Addr) (n2 c2 : Nat) {K : Value → WP} {w : World} (h : S16 x0 x1 a2 n2 c2 K w) : Calls Try.prog 16 #[(.agg x0), (.int .u32 x1), (.slice a2 n2 c2)] w (Ret K) := callsR_of_bodyW mixed Try.func16 (of_decide_eq_true (by kernel_rfl)) (by rw [eq16]; exact h)

/-- shadowbook/shadowbookkit.Same[byte] -/
def an17 : Ann := (.seq .nil (.seq (.seq .nil (.cond (.seq .nil .nil) .nil)) (.seq (.seq .nil (.block (.loop [(5, .sh (.one (.int .i64)))] [0, 1, 1000000] (.seq (.seq .nil (.cond .nil .nil)) (.seq (.block (.seq .nil (.cond (.seq .nil .nil) .nil))) .nil))))) (.seq .nil .nil))))
def S17 (a0 : Option Addr) (n0 c0 : Nat) (a1 : Option Addr) (n1 c1 : Nat) (K : Value → WP) : WP := 
  splitW (((n0 : Nat) : Int) != ((n1 : Nat) : Int)) (K (.bool false)) <|
  loopW (Int × Unit) ((0 : Int), ()) fun (y2 : Int × Unit) (I1 : (Int × Unit) → WP) =>
  splitW (decide (y2.1 < ((n0 : Nat) : Int))) (drewW <|
  guardW (0 ≤ y2.1 ∧ y2.1 < ((n0 : Nat) : Int)) <|
  ptrW a0 fun (p3 : Addr) =>
  ldW (.int .u8) (p3.add (Int.toNat y2.1 * 1)) fun (u4 : Int) =>
  guardW (0 ≤ y2.1 ∧ y2.1 < ((n1 : Nat) : Int)) <|
  ptrW a1 fun (p5 : Addr) =>
  ldW (.int .u8) (p5.add (Int.toNat y2.1 * 1)) fun (u6 : Int) =>
  splitW (u4 != u6) (K (.bool false)) <| I1 ((IntKind.wrap .i64 (y2.1 + (1 : Int))), ())) <| K (.bool true)
theorem eq17 (a0 : Option Addr) (n0 c0 : Nat) (a1 : Option Addr) (n1 c1 : Nat) (K : Value → WP) : bodyW Try.prog Try.f17 an17 false [(.slice a0 n0 c0), (.slice a1 n1 c1)] K = S17 a0 n0 c0 a1 n1 c1 K := by kernel_rfl
theorem calls17 (a0 : Option Addr) (n0 c0 : Nat) (a1 : Option Addr) (n1 c1 : Nat) {K : Value → WP} {w : World} (h : S17 a0 n0 c0 a1 n1 c1 K w) : Calls Try.prog 17 #[(.slice a0 n0 c0), (.slice a1 n1 c1)] w (Ret K) := callsR_of_bodyW mixed Try.func17 (of_decide_eq_true (by kernel_rfl)) (by rw [eq17]; exact h)

/-- shadowbook/shadowbookref02.Table -/
def an18 : Ann := (.seq .nil (.seq .nil (.seq (.seq .nil (.block (.loop [(2, .sh (.one (.int .i64)))] [0, 1, 1000000] (.seq (.seq .nil (.cond .nil .nil)) (.seq (.block (.seq .nil (.seq (.seq .nil (.block (.loop [(3, .sh (.one (.int .u32))), (4, .sh (.one (.int .i64)))] [0, 1, 2, 1000000] (.seq (.seq .nil (.cond .nil .nil)) (.seq (.block (.seq .nil (.cond .nil .nil))) .nil))))) .nil))) .nil))))) (.seq .nil .nil))))
def S18  (K : Value → WP) : WP := 
  newW (.cells (zeroC Try.prog 31) 31) fun (r1 : Nat) =>
  newW (.cells (zeroC Try.prog 31) 31) fun (r2 : Nat) =>
  loopW (Int × Unit) ((0 : Int), ()) fun (y4 : Int × Unit) (I3 : (Int × Unit) → WP) =>
  splitW (decide (y4.1 < (256 : Int))) (loopW (Int × Int × Unit) ((IntKind.wrap .u32 y4.1), (0 : Int), ()) fun (y6 : Int × Int × Unit) (I5 : (Int × Int × Unit) → WP) =>
  splitW (decide (y6.2.1 < (8 : Int))) (splitW ((Int.tmod y6.1 (2 : Int)) == (1 : Int)) (I5 ((ixor .u32 (ishr .u32 y6.1 (1 : Int)) (2197175160 : Int)), (IntKind.wrap .i64 (y6.2.1 + (1 : Int))), ())) <| I5 ((ishr .u32 y6.1 (1 : Int)), (IntKind.wrap .i64 (y6.2.1 + (1 : Int))), ())) <|
  guardW (0 ≤ y4.1 ∧ y4.1 < ((256 : Nat) : Int)) <|
  stW ((⟨r2, 0, none⟩ : Addr).add (Int.toNat y4.1 * 1)) (.int .u32 y6.1) <| I3 ((IntKind.wrap .i64 (y4.1 + (1 : Int))), ())) <|
  ldRW 256 (⟨r2, 0, none⟩ : Addr) fun (u7 : Array Value) =>
  guardW (u7.size = 256) <|
  stAW (⟨r1, 0, none⟩ : Addr) u7.toList <|
  ldRW 256 (⟨r1, 0, none⟩ : Addr) fun (u8 : Array Value) => K (.agg u8)
theorem eq18  (K : Value → WP) : bodyW Try.prog Try.f18 an18 false [] K = S18  K := by kernel_rfl
theorem calls18  {K : Value → WP} {w : World} (h : S18  K w) : Calls Try.prog 18 #[] w (Ret K) := callsR_of_bodyW mixed Try.func18 (of_decide_eq_true (by kernel_rfl)) (by rw [eq18]; exact h)

/-- shadowbook/shadowbookref02.Update -/
def an19 : Ann := (.seq .nil (.seq (.seq .nil (.block (.loop [(1, .sh (.one (.int .u32))), (7, .sh (.one (.int .i64)))] [2, 3, 1000000] (.seq (.seq .nil (.cond .nil .nil)) (.seq (.block .nil) .nil))))) (.seq .nil .nil)))
def S19 (x0 : Array Value) (x1 : Int) (a2 : Option Addr) (n2 c2 : Nat) (K : Value → WP) : WP := 
  newW (.cells x0 31) fun (r1 : Nat) =>
  loopW (Int × Int × Unit) (x1, (0 : Int), ()) fun (y3 : Int × Int × Unit) (I2 : (Int × Int × Unit) → WP) =>
  splitW (decide (y3.2.1 < ((n2 : Nat) : Int))) (guardW (0 ≤ y3.2.1 ∧ y3.2.1 < ((n2 : Nat) : Int)) <|
  ptrW a2 fun (p4 : Addr) =>
  ldW (.int .u8) (p4.add (Int.toNat y3.2.1 * 1)) fun (u5 : Int) =>
  guardW (0 ≤ (ixor .u8 (IntKind.wrap .u8 y3.1) u5) ∧ (ixor .u8 (IntKind.wrap .u8 y3.1) u5) < ((256 : Nat) : Int)) <|
  ldW (.int .u32) ((⟨r1, 0, none⟩ : Addr).add (Int.toNat (ixor .u8 (IntKind.wrap .u8 y3.1) u5) * 1)) fun (u6 : Int) => I2 ((ixor .u32 (ishr .u32 y3.1 (8 : Int)) u6), (IntKind.wrap .i64 (y3.2.1 + (1 : Int))), ())) <| K (.int .u32 y3.1)
theorem eq19 (x0 : Array Value) (x1 : Int) (a2 : Option Addr) (n2 c2 : Nat) (K : Value → WP) : bodyW Try.prog Try.f19 an19 false [(.agg x0), (.int .u32 x1), (.slice a2 n2 c2)] K = S19 x0 x1 a2 n2 c2 K := by kernel_rfl
theorem calls19 (x0 : Array Value) (x1 : Int) (a2 : Option Addr) (n2 c2 : Nat) {K : Value → WP} {w : World} (h : S19 x0 x1 a2 n2 c2 K w) : Calls Try.prog 19 #[(.agg x0), (.int .u32 x1), (.slice a2 n2 c2)] w (Ret K) := callsR_of_bodyW mixed Try.func19 (of_decide_eq_true (by kernel_rfl)) (by rw [eq19]; exact h)

/-- shadowbook/shadowbookref02.Sum -/
def an20 : Ann := (.seq .nil (.seq .nil .nil))
def S20 (x0 : Array Value) (a1 : Option Addr) (n1 c1 : Nat) (K : Value → WP) : WP := 
  newW (.cells x0 31) fun (r1 : Nat) =>
  ldRW 256 (⟨r1, 0, none⟩ : Addr) fun (u2 : Array Value) =>
  callW Try.prog 19 [(.agg u2), (.int .u32 (4294967295 : Int)), (.slice a1 n1 c1)] (.one (.one (.int .u32))) fun (u3 : Int) => K (.int .u32 (inot .u32 u3))
theorem eq20 (x0 : Array Value) (a1 : Option Addr) (n1 c1 : Nat) (K : Value → WP) : bodyW Try.prog Try.f20 an20 false [(.agg x0), (.slice a1 n1 c1)] K = S20 x0 a1 n1 c1 K := by kernel_rfl
theorem calls20 (x0 : Array Value) (a1 : Option Addr) (n1 c1 : Nat) {K : Value → WP} {w : World} (h : S20 x0 a1 n1 c1 K w) : Calls Try.prog 20 #[(.agg x0), (.slice a1 n1 c1)] w (Ret K) := callsR_of_bodyW mixed Try.func20 (of_decide_eq_true (by kernel_rfl)) (by rw [eq20]; exact h)

/-- shadowbook/shadowbookref02.Of -/
def an21 : Ann := (.seq .nil (.seq .nil .nil))
def S21 (a0 : Option Addr) (n0 c0 : Nat) (K : Value → WP) : WP := 
  callW Try.prog 18 [] (.one (.arr 256)) fun (u1 : Array Value) =>
  callW Try.prog 20 [(.agg u1), (.slice a0 n0 c0)] (.one (.one (.int .u32))) fun (u2 : Int) => K (.int .u32 u2)
theorem eq21 (a0 : Option Addr) (n0 c0 : Nat) (K : Value → WP) : bodyW Try.prog Try.f21 an21 false [(.slice a0 n0 c0)] K = S21 a0 n0 c0 K := by kernel_rfl
theorem calls21 (a0 : Option Addr) (n0 c0 : Nat) {K : Value → WP} {w : World} (h : S21 a0 n0 c0 K w) : Calls Try.prog 21 #[(.slice a0 n0 c0)] w (Ret K) := callsR_of_bodyW mixed Try.func21 (of_decide_eq_true (by kernel_rfl)) (by rw [eq21]; exact h)

/-- shadowbook/shadowbookref02.Flip -/
def an22 : Ann := (.seq .nil (.seq .nil (.seq (.seq .nil (.cond (.seq .nil .nil) .nil)) (.seq (.seq .nil (.block (.loop [(10, .sh (.one (.int .i64)))] [0, 1, 2, 3, 9, 1000000] (.seq (.seq .nil (.cond .nil .nil)) (.seq (.block (.seq (.seq .nil (.cond .nil .nil)) (.seq .nil (.cond .nil .nil)))) .nil))))) (.seq .nil .nil)))))
def S22 (a0 : Option Addr) (n0 c0 : Nat) (x1 : Int) (x2 : Int) (x3 : Int) (K : Value → WP) : WP := 
  newW (.cells #[] 5) fun (r1 : Nat) =>
  runW Try.prog (Builtin.append_ #[22, 22] 22 #[(.slice (some (⟨r1, 0, none⟩ : Addr)) 0 0), (.slice a0 n0 c0)]) .slc fun (u2 : (Option Addr × Nat × Nat)) =>
  splitW (decide (x1 < (0 : Int))) (K (.slice u2.1 u2.2.1 u2.2.2)) <|
  splitW (decide (x2 < (0 : Int))) (K (.slice u2.1 u2.2.1 u2.2.2)) <|
  splitW (decide (x2 > (32 : Int))) (K (.slice u2.1 u2.2.1 u2.2.2)) <|
  loopW (Int × Unit) ((0 : Int), ()) fun (y4 : Int × Unit) (I3 : (Int × Unit) → WP) =>
  splitW (decide (y4.1 < x2)) (splitW (decide (x1 ≥ (IntKind.wrap .i64 ((8 : Int) * ((n0 : Nat) : Int))))) (K (.slice u2.1 u2.2.1 u2.2.2)) <|
  splitW (decide (y4.1 ≥ (IntKind.wrap .i64 ((IntKind.wrap .i64 ((8 : Int) * ((n0 : Nat) : Int))) - x1)))) (K (.slice u2.1 u2.2.1 u2.2.2)) <|
  guardW (0 ≤ (IntKind.wrap .u64 y4.1)) <|
  splitW ((Int.tmod (ishr .u32 x3 (IntKind.wrap .u64 y4.1)) (2 : Int)) == (1 : Int)) (guardW (0 ≤ (IntKind.wrap .i64 (Int.tdiv (IntKind.wrap .i64 (x1 + y4.1)) (8 : Int))) ∧ (IntKind.wrap .i64 (Int.tdiv (IntKind.wrap .i64 (x1 + y4.1)) (8 : Int))) < ((u2.2.1 : Nat) : Int)) <|
  ptrW u2.1 fun (p5 : Addr) =>
  ldW (.int .u8) (p5.add (Int.toNat (IntKind.wrap .i64 (Int.tdiv (IntKind.wrap .i64 (x1 + y4.1)) (8 : Int))) * 1)) fun (u6 : Int) =>
  guardW (0 ≤ (IntKind.wrap .u64 (Int.tmod (IntKind.wrap .i64 (x1 + y4.1)) (8 : Int)))) <|
  guardW (0 ≤ (IntKind.wrap .i64 (Int.tdiv (IntKind.wrap .i64 (x1 + y4.1)) (8 : Int))) ∧ (IntKind.wrap .i64 (Int.tdiv (IntKind.wrap .i64 (x1 + y4.1)) (8 : Int))) < ((u2.2.1 : Nat) : Int)) <|
  ptrW u2.1 fun (p7 : Addr) =>
  stW (p7.add (Int.toNat (IntKind.wrap .i64 (Int.tdiv (IntKind.wrap .i64 (x1 + y4.1)) (8 : Int))) * 1)) (.int .u8 (ixor .u8 u6 (ishl .u8 (1 : Int) (IntKind.wrap .u64 (Int.tmod (IntKind.wrap .i64 (x1 + y4.1)) (8 : Int)))))) <| I3 ((IntKind.wrap .i64 (y4.1 + (1 : Int))), ())) <| I3 ((IntKind.wrap .i64 (y4.1 + (1 : Int))), ())) <| K (.slice u2.1 u2.2.1 u2.2.2)
theorem eq22 (a0 : Option Addr) (n0 c0 : Nat) (x1 : Int) (x2 : Int) (x3 : Int) (K : Value → WP) : bodyW Try.prog Try.f22 an22 false [(.slice a0 n0 c0), (.int .i64 x1), (.int .i64 x2), (.int .u32 x3)] K = S22 a0 n0 c0 x1 x2 x3 K := by kernel_rfl
theorem calls22 (a0 : Option Addr) (n0 c0 : Nat) (x1 : Int) (x2 : Int) (x3 : Int) {K : Value → WP} {w : World} (h : S22 a0 n0 c0 x1 x2 x3 K w) : Calls Try.prog 22 #[(.slice a0 n0 c0), (.int .i64 x1), (.int .i64 x2), (.int .u32 x3)] w (Ret K) := callsR_of_bodyW mixed Try.func22 (of_decide_eq_true (by kernel_rfl)) (by rw [eq22]; exact h)

/-- shadowbook/shadowbookkit.Pick -/
def an23 : Ann := (.seq .nil (.seq (.seq .nil (.cond (.seq .nil .nil) .nil)) (.seq .nil (.seq (.seq .nil (.cond .nil .nil)) (.seq .nil .nil)))))
def S23 (x0 : Int) (x1 : Int) (K : Value → WP) : WP := 
  splitW (decide (x1 < (1 : Int))) (K (.int .i64 (0 : Int))) <|
  guardW (x1 ≠ 0) <|
  splitW (decide ((Int.tmod x0 x1) < (0 : Int))) (K (.int .i64 (IntKind.wrap .i64 ((Int.tmod x0 x1) + x1)))) <| K (.int .i64 (Int.tmod x0 x1))
theorem eq23 (x0 : Int) (x1 : Int) (K : Value → WP) : bodyW Try.prog Try.f23 an23 false [(.int .i64 x0), (.int .i64 x1)] K = S23 x0 x1 K := by kernel_rfl
theorem calls23 (x0 : Int) (x1 : Int) {K : Value → WP} {w : World} (h : S23 x0 x1 K w) : Calls Try.prog 23 #[(.int .i64 x0), (.int .i64 x1)] w (Ret K) := callsR_of_bodyW mixed Try.func23 (of_decide_eq_true (by kernel_rfl)) (by rw [eq23]; exact h)

/-- shadowbook/shadowbookref01.Of -/
def an24 : Ann := (.seq .nil (.seq .nil (.seq (.seq .nil (.cond (.seq .nil .nil) .nil)) (.seq (.seq .nil (.block (.loop [(3, .sh (.one (.int .u64))), (4, .sh (.one (.int .i64)))] [0, 1000000] (.seq (.seq .nil (.cond .nil .nil)) (.seq (.block .nil) .nil))))) (.seq .nil .nil)))))
def S24 (a0 : Option Addr) (n0 c0 : Nat) (K : Value → WP) : WP := 
  splitW (decide (((n0 : Nat) : Int) > (8 : Int))) (K (.int .u64 (0 : Int))) <|
  loopW (Int × Int × Unit) ((0 : Int), (0 : Int), ()) fun (y2 : Int × Int × Unit) (I1 : (Int × Int × Unit) → WP) =>
  splitW (decide (y2.2.1 < ((n0 : Nat) : Int))) (guardW (0 ≤ y2.2.1 ∧ y2.2.1 < ((n0 : Nat) : Int)) <|
  ptrW a0 fun (p3 : Addr) =>
  ldW (.int .u8) (p3.add (Int.toNat y2.2.1 * 1)) fun (u4 : Int) =>
  guardW (0 ≤ (IntKind.wrap .u64 (IntKind.wrap .i64 ((8 : Int) * y2.2.1)))) <| I1 ((ior .u64 y2.1 (ishl .u64 (IntKind.wrap .u64 u4) (IntKind.wrap .u64 (IntKind.wrap .i64 ((8 : Int) * y2.2.1))))), (IntKind.wrap .i64 (y2.2.1 + (1 : Int))), ())) <| K (.int .u64 y2.1)
theorem eq24 (a0 : Option Addr) (n0 c0 : Nat) (K : Value → WP) : bodyW Try.prog Try.f24 an24 false [(.slice a0 n0 c0)] K = S24 a0 n0 c0 K := by kernel_rfl
theorem calls24 (a0 : Option Addr) (n0 c0 : Nat) {K : Value → WP} {w : World} (h : S24 a0 n0 c0 K w) : Calls Try.prog 24 #[(.slice a0 n0 c0)] w (Ret K) := callsR_of_bodyW mixed Try.func24 (of_decide_eq_true (by kernel_rfl)) (by rw [eq24]; exact h)

/-- slices.Clone[[]byte,byte] -/
def an25 : Ann := (.seq .nil (.seq (.seq .nil (.cond (.seq .nil .nil) .nil)) (.seq .nil .nil)))
def S25 (a0 : Option Addr) (n0 c0 : Nat) (K : Value → WP) : WP := 
  splitW (Option.isNone a0) (K (.slice none 0 0)) <|
  newW (.cells #[] 5) fun (r1 : Nat) =>
  runW Try.prog (Builtin.append_ #[22, 22] 22 #[(.slice (some (⟨r1, 0, none⟩ : Addr)) 0 0), (.slice a0 n0 c0)]) .slc fun (u2 : (Option Addr × Nat × Nat)) => K (.slice u2.1 u2.2.1 u2.2.2)
theorem eq25 (a0 : Option Addr) (n0 c0 : Nat) (K : Value → WP) : bodyW Try.prog Try.f25 an25 false [(.slice a0 n0 c0)] K = S25 a0 n0 c0 K := by kernel_rfl
theorem calls25 (a0 : Option Addr) (n0 c0 : Nat) {K : Value → WP} {w : World} (h : S25 a0 n0 c0 K w) : Calls Try.prog 25 #[(.slice a0 n0 c0)] w (Ret K) := callsR_of_bodyW mixed Try.func25 (of_decide_eq_true (by kernel_rfl)) (by rw [eq25]; exact h)

/-- shadowbook/shadowbooklaw02.CrcLinear -/
def an3 : Ann := (.seq .nil (.seq (.seq .nil (.cond (.seq .nil .nil) .nil)) (.seq .nil (.seq (.seq .nil (.cond (.seq .nil .nil) .nil)) (.seq .nil (.seq (.seq .nil (.block (.loop [(9, .sh (.one (.int .i64)))] [0, 1, 2, 7, 8, 1000000] (.seq (.seq .nil (.cond .nil .nil)) (.seq (.block .nil) .nil))))) (.seq .nil .nil)))))))
def S3 (a0 : Option Addr) (n0 c0 : Nat) (a1 : Option Addr) (n1 c1 : Nat) (a2 : Option Addr) (n2 c2 : Nat) (K : Value → WP) : WP := 
  callW Try.prog 9 [] (.one (.one .bool)) fun (u1 : Bool) =>
  splitW (!u1) (K (.bool false)) <|
  splitW (decide ((if ((n2 : Nat) : Int) < (if ((n1 : Nat) : Int) < ((n0 : Nat) : Int) then ((n1 : Nat) : Int) else ((n0 : Nat) : Int)) then ((n2 : Nat) : Int) else (if ((n1 : Nat) : Int) < ((n0 : Nat) : Int) then ((n1 : Nat) : Int) else ((n0 : Nat) : Int))) > (300 : Int))) (K (.bool true)) <|
  runW Try.prog (Instr.makeSlice 22 (.int .i64 (if ((n2 : Nat) : Int) < (if ((n1 : Nat) : Int) < ((n0 : Nat) : Int) then ((n1 : Nat) : Int) else ((n0 : Nat) : Int)) then ((n2 : Nat) : Int) else (if ((n1 : Nat) : Int) < ((n0 : Nat) : Int) then ((n1 : Nat) : Int) else ((n0 : Nat) : Int)))) (.int .i64 (if ((n2 : Nat) : Int) < (if ((n1 : Nat) : Int) < ((n0 : Nat) : Int) then ((n1 : Nat) : Int) else ((n0 : Nat) : Int)) then ((n2 : Nat) : Int) else (if ((n1 : Nat) : Int) < ((n0 : Nat) : Int) then ((n1 : Nat) : Int) else ((n0 : Nat) : Int))))) .slc fun (u2 : Option Addr × Nat × Nat) =>
  loopW (Int × Unit) ((0 : Int), ()) fun (y4 : Int × Unit) (I3 : (Int × Unit) → WP) =>
  splitW (decide (y4.1 < (if ((n2 : Nat) : Int) < (if ((n1 : Nat) : Int) < ((n0 : Nat) : Int) then ((n1 : Nat) : Int) else ((n0 : Nat) : Int)) then ((n2 : Nat) : Int) else (if ((n1 : Nat) : Int) < ((n0 : Nat) : Int) then ((n1 : Nat) : Int) else ((n0 : Nat) : Int))))) (drewW <|
  guardW (0 ≤ y4.1 ∧ y4.1 < ((n0 : Nat) : Int)) <|
  ptrW a0 fun (p5 : Addr) =>
  ldW (.int .u8) (p5.add (Int.toNat y4.1 * 1)) fun (u6 : Int) =>
  guardW (0 ≤ y4.1 ∧ y4.1 < ((n1 : Nat) : Int)) <|
  ptrW a1 fun (p7 : Addr) =>
  ldW (.int .u8) (p7.add (Int.toNat y4.1 * 1)) fun (u8 : Int) =>
  guardW (0 ≤ y4.1 ∧ y4.1 < ((n2 : Nat) : Int)) <|
  ptrW a2 fun (p9 : Addr) =>
  ldW (.int .u8) (p9.add (Int.toNat y4.1 * 1)) fun (u10 : Int) =>
  guardW (0 ≤ y4.1 ∧ y4.1 < ((u2.2.1 : Nat) : Int)) <|
  ptrW u2.1 fun (p11 : Addr) =>
  stW (p11.add (Int.toNat y4.1 * 1)) (.int .u8 (ixor .u8 (ixor .u8 u6 u8) u10)) <| I3 ((IntKind.wrap .i64 (y4.1 + (1 : Int))), ())) <|
  drewW <|
  guardW (0 ≤ (if ((n2 : Nat) : Int) < (if ((n1 : Nat) : Int) < ((n0 : Nat) : Int) then ((n1 : Nat) : Int) else ((n0 : Nat) : Int)) then ((n2 : Nat) : Int) else (if ((n1 : Nat) : Int) < ((n0 : Nat) : Int) then ((n1 : Nat) : Int) else ((n0 : Nat) : Int))) ∧ (if ((n2 : Nat) : Int) < (if ((n1 : Nat) : Int) < ((n0 : Nat) : Int) then ((n1 : Nat) : Int) else ((n0 : Nat) : Int)) then ((n2 : Nat) : Int) else (if ((n1 : Nat) : Int) < ((n0 : Nat) : Int) then ((n1 : Nat) : Int) else ((n0 : Nat) : Int))) ≤ ((c0 : Nat) : Int)) <|
  guardW (0 ≤ (if ((n2 : Nat) : Int) < (if ((n1 : Nat) : Int) < ((n0 : Nat) : Int) then ((n1 : Nat) : Int) else ((n0 : Nat) : Int)) then ((n2 : Nat) : Int) else (if ((n1 : Nat) : Int) < ((n0 : Nat) : Int) then ((n1 : Nat) : Int) else ((n0 : Nat) : Int))) ∧ (if ((n2 : Nat) : Int) < (if ((n1 : Nat) : Int) < ((n0 : Nat) : Int) then ((n1 : Nat) : Int) else ((n0 : Nat) : Int)) then ((n2 : Nat) : Int) else (if ((n1 : Nat) : Int) < ((n0 : Nat) : Int) then ((n1 : Nat) : Int) else ((n0 : Nat) : Int))) ≤ ((c1 : Nat) : Int)) <|
  guardW (0 ≤ (if ((n2 : Nat) : Int) < (if ((n1 : Nat) : Int) < ((n0 : Nat) : Int) then ((n1 : Nat) : Int) else ((n0 : Nat) : Int)) then ((n2 : Nat) : Int) else (if ((n1 : Nat) : Int) < ((n0 : Nat) : Int) then ((n1 : Nat) : Int) else ((n0 : Nat) : Int))) ∧ (if ((n2 : Nat) : Int) < (if ((n1 : Nat) : Int) < ((n0 : Nat) : Int) then ((n1 : Nat) : Int) else ((n0 : Nat) : Int)) then ((n2 : Nat) : Int) else (if ((n1 : Nat) : Int) < ((n0 : Nat) : Int) then ((n1 : Nat) : Int) else ((n0 : Nat) : Int))) ≤ ((c2 : Nat) : Int)) <|
  callW Try.prog 10 [(.slice u2.1 u2.2.1 u2.2.2)] (.one (.one (.int .u32))) fun (u12 : Int) =>
  callW Try.prog 10 [(.slice (cutAddr a0 0 c0 1) (Int.toNat (if ((n2 : Nat) : Int) < (if ((n1 : Nat) : Int) < ((n0 : Nat) : Int) then ((n1 : Nat) : Int) else ((n0 : Nat) : Int)) then ((n2 : Nat) : Int) else (if ((n1 : Nat) : Int) < ((n0 : Nat) : Int) then ((n1 : Nat) : Int) else ((n0 : Nat) : Int)))) c0)] (.one (.one (.int .u32))) fun (u13 : Int) =>
  callW Try.prog 10 [(.slice (cutAddr a1 0 c1 1) (Int.toNat (if ((n2 : Nat) : Int) < (if ((n1 : Nat) : Int) < ((n0 : Nat) : Int) then ((n1 : Nat) : Int) else ((n0 : Nat) : Int)) then ((n2 : Nat) : Int) else (if ((n1 : Nat) : Int) < ((n0 : Nat) : Int) then ((n1 : Nat) : Int) else ((n0 : Nat) : Int)))) c1)] (.one (.one (.int .u32))) fun (u14 : Int) =>
  callW Try.prog 10 [(.slice (cutAddr a2 0 c2 1) (Int.toNat (if ((n2 : Nat) : Int) < (if ((n1 : Nat) : Int) < ((n0 : Nat) : Int) then ((n1 : Nat) : Int) else ((n0 : Nat) : Int)) then ((n2 : Nat) : Int) else (if ((n1 : Nat) : Int) < ((n0 : Nat) : Int) then ((n1 : Nat) : Int) else ((n0 : Nat) : Int)))) c2)] (.one (.one (.int .u32))) fun (u15 : Int) => K (.bool (u12 == (ixor .u32 (ixor .u32 u13 u14) u15)))
theorem eq3 (a0 : Option Addr) (n0 c0 : Nat) (a1 : Option Addr) (n1 c1 : Nat) (a2 : Option Addr) (n2 c2 : Nat) (K : Value → WP) : bodyW Try.prog Try.f3 an3 false [(.slice a0 n0 c0), (.slice a1 n1 c1), (.slice a2 n2 c2)] K = S3 a0 n0 c0 a1 n1 c1 a2 n2 c2 K := by kernel_rfl
theorem calls3 (a0 : Option Addr) (n0 c0 : Nat) (a1 : Option Addr) (n1 c1 : Nat) (a2 : Option Addr) (n2 c2 : Nat) {K : Value → WP} {w : World} (h : S3 a0 n0 c0 a1 n1 c1 a2 n2 c2 K w) : Calls Try.prog 3 #[(.slice a0 n0 c0), (.slice a1 n1 c1), (.slice a2 n2 c2)] w (Ret K) := callsR_of_bodyW mixed Try.func3 (of_decide_eq_true (by kernel_rfl)) (by rw [eq3]; exact h)

/-- shadowbook/shadowbooklaw02.CrcBehind -/
def an4 : Ann := (.seq .nil (.seq (.seq .nil (.cond (.seq .nil .nil) .nil)) (.seq (.seq .nil (.cond (.seq .nil .nil) .nil)) (.seq .nil (.seq .nil (.seq .nil .nil))))))
def S4 (a0 : Option Addr) (n0 c0 : Nat) (a1 : Option Addr) (n1 c1 : Nat) (K : Value → WP) : WP := 
  callW Try.prog 9 [] (.one (.one .bool)) fun (u1 : Bool) =>
  splitW (!u1) (K (.bool false)) <|
  splitW (decide (((n0 : Nat) : Int) > (300 : Int))) (K (.bool true)) <|
  splitW (decide (((n1 : Nat) : Int) > (300 : Int))) (K (.bool true)) <|
  callW Try.prog 12 [(.slice a0 n0 c0)] (.one (.one .slc)) fun (u2 : (Option Addr × Nat × Nat)) =>
  callW Try.prog 10 [(.slice a0 n0 c0)] (.one (.one (.int .u32))) fun (u3 : Int) =>
  callW Try.prog 11 [(.slice u2.1 u2.2.1 u2.2.2), (.int .u64 (IntKind.wrap .u64 u3)), (.int .i64 (4 : Int))] (.one (.one .slc)) fun (u4 : (Option Addr × Nat × Nat)) =>
  callW Try.prog 12 [(.slice a1 n1 c1)] (.one (.one .slc)) fun (u5 : (Option Addr × Nat × Nat)) =>
  callW Try.prog 10 [(.slice a1 n1 c1)] (.one (.one (.int .u32))) fun (u6 : Int) =>
  callW Try.prog 11 [(.slice u5.1 u5.2.1 u5.2.2), (.int .u64 (IntKind.wrap .u64 u6)), (.int .i64 (4 : Int))] (.one (.one .slc)) fun (u7 : (Option Addr × Nat × Nat)) =>
  callW Try.prog 10 [(.slice u4.1 u4.2.1 u4.2.2)] (.one (.one (.int .u32))) fun (u8 : Int) =>
  callW Try.prog 10 [(.slice u7.1 u7.2.1 u7.2.2)] (.one (.one (.int .u32))) fun (u9 : Int) =>
  splitW (u8 == u9) (callW Try.prog 12 [(.slice u4.1 u4.2.1 u4.2.2)] (.one (.one .slc)) fun (u10 : (Option Addr × Nat × Nat)) =>
  runW Try.prog (Builtin.append_ #[22, 22] 22 #[(.slice u10.1 u10.2.1 u10.2.2), (.slice a1 n1 c1)]) .slc fun (u11 : (Option Addr × Nat × Nat)) =>
  callW Try.prog 10 [(.slice u11.1 u11.2.1 u11.2.2)] (.one (.one (.int .u32))) fun (u12 : Int) =>
  callW Try.prog 12 [(.slice u7.1 u7.2.1 u7.2.2)] (.one (.one .slc)) fun (u13 : (Option Addr × Nat × Nat)) =>
  runW Try.prog (Builtin.append_ #[22, 22] 22 #[(.slice u13.1 u13.2.1 u13.2.2), (.slice a1 n1 c1)]) .slc fun (u14 : (Option Addr × Nat × Nat)) =>
  callW Try.prog 10 [(.slice u14.1 u14.2.1 u14.2.2)] (.one (.one (.int .u32))) fun (u15 : Int) => K (.bool (u12 == u15))) <| K (.bool false)
theorem eq4 (a0 : Option Addr) (n0 c0 : Nat) (a1 : Option Addr) (n1 c1 : Nat) (K : Value → WP) : bodyW Try.prog Try.f4 an4 false [(.slice a0 n0 c0), (.slice a1 n1 c1)] K = S4 a0 n0 c0 a1 n1 c1 K := by kernel_rfl
theorem calls4 (a0 : Option Addr) (n0 c0 : Nat) (a1 : Option Addr) (n1 c1 : Nat) {K : Value → WP} {w : World} (h : S4 a0 n0 c0 a1 n1 c1 K w) : Calls Try.prog 4 #[(.slice a0 n0 c0), (.slice a1 n1 c1)] w (Ret K) := callsR_of_bodyW mixed Try.func4 (of_decide_eq_true (by kernel_rfl)) (by rw [eq4]; exact h)

/-- shadowbook/shadowbooklaw02.CrcNames -/
def an5 : Ann := (.seq .nil (.seq (.seq .nil (.cond (.seq .nil .nil) .nil)) (.seq .nil (.seq .nil (.seq .nil (.join [(0, .sh (.one .bool))] [1000000] .nil .nil))))))
def S5  (K : Value → WP) : WP := 
  callW Try.prog 9 [] (.one (.one .bool)) fun (u1 : Bool) =>
  splitW (!u1) (K (.bool false)) <|
  callW Try.prog 13 [] (.one (.arr 256)) fun (u2 : Array Value) =>
  newW (.cells (zeroC Try.prog 31) 31) fun (r3 : Nat) =>
  guardW (u2.size = 256) <|
  stAW (⟨r3, 0, none⟩ : Addr) u2.toList <|
  newW (.cells #[(.int .u8 (1 : Int)), (.int .u8 (2 : Int))] 5) fun (r4 : Nat) =>
  callW Try.prog 14 [(.slice (some (⟨r4, 0, none⟩ : Addr)) 2 2), (.int .i64 (7 : Int)), (.int .i64 (3 : Int)), (.int .u32 (5 : Int))] (.one (.one .slc)) fun (u5 : (Option Addr × Nat × Nat)) =>
  joinW (Bool × Unit) (fun (J6 : (Bool × Unit) → WP) =>
  guardW (0 ≤ (0 : Int) ∧ (0 : Int) < ((256 : Nat) : Int)) <|
  ldW (.int .u32) ((⟨r3, 0, none⟩ : Addr).add (Int.toNat (0 : Int) * 1)) fun (u8 : Int) =>
  splitW (u8 == (0 : Int)) (guardW (0 ≤ (128 : Int) ∧ (128 : Int) < ((256 : Nat) : Int)) <|
  ldW (.int .u32) ((⟨r3, 0, none⟩ : Addr).add (Int.toNat (128 : Int) * 1)) fun (u9 : Int) =>
  splitW (u9 == (2197175160 : Int)) (callW Try.prog 10 [(.slice none 0 0)] (.one (.one (.int .u32))) fun (u10 : Int) =>
  splitW (u10 == (0 : Int)) (ldRW 256 (⟨r3, 0, none⟩ : Addr) fun (u11 : Array Value) =>
  callW Try.prog 15 [(.agg u11), (.slice (some (⟨r4, 0, none⟩ : Addr)) 2 2)] (.one (.one (.int .u32))) fun (u12 : Int) =>
  callW Try.prog 10 [(.slice (some (⟨r4, 0, none⟩ : Addr)) 2 2)] (.one (.one (.int .u32))) fun (u13 : Int) =>
  splitW (u12 == u13) (ldRW 256 (⟨r3, 0, none⟩ : Addr) fun (u14 : Array Value) =>
  callW Try.prog 16 [(.agg u14), (.int .u32 (7 : Int)), (.slice none 0 0)] (.one (.one (.int .u32))) fun (u15 : Int) =>
  splitW (u15 == (7 : Int)) (newW (.cells #[(.int .u8 (129 : Int)), (.int .u8 (0 : Int))] 5) fun (r16 : Nat) =>
  callW Try.prog 17 [(.slice u5.1 u5.2.1 u5.2.2), (.slice (some (⟨r16, 0, none⟩ : Addr)) 2 2)] (.one (.one .bool)) fun (u17 : Bool) =>
  splitW u17 (newW (.cells #[(.int .u8 (1 : Int)), (.int .u8 (2 : Int))] 5) fun (r18 : Nat) =>
  callW Try.prog 17 [(.slice (some (⟨r4, 0, none⟩ : Addr)) 2 2), (.slice (some (⟨r18, 0, none⟩ : Addr)) 2 2)] (.one (.one .bool)) fun (u19 : Bool) =>
  splitW u19 (callW Try.prog 14 [(.slice (some (⟨r4, 0, none⟩ : Addr)) 2 2), (.int .i64 (-1 : Int)), (.int .i64 (3 : Int)), (.int .u32 (7 : Int))] (.one (.one .slc)) fun (u20 : (Option Addr × Nat × Nat)) =>
  callW Try.prog 17 [(.slice u20.1 u20.2.1 u20.2.2), (.slice (some (⟨r4, 0, none⟩ : Addr)) 2 2)] (.one (.one .bool)) fun (u21 : Bool) =>
  splitW u21 (callW Try.prog 14 [(.slice (some (⟨r4, 0, none⟩ : Addr)) 2 2), (.int .i64 (0 : Int)), (.int .i64 (33 : Int)), (.int .u32 (7 : Int))] (.one (.one .slc)) fun (u22 : (Option Addr × Nat × Nat)) =>
  callW Try.prog 17 [(.slice u22.1 u22.2.1 u22.2.2), (.slice (some (⟨r4, 0, none⟩ : Addr)) 2 2)] (.one (.one .bool)) fun (u23 : Bool) =>
  splitW u23 (callW Try.prog 14 [(.slice (some (⟨r4, 0, none⟩ : Addr)) 2 2), (.int .i64 (14 : Int)), (.int .i64 (5 : Int)), (.int .u32 (31 : Int))] (.one (.one .slc)) fun (u24 : (Option Addr × Nat × Nat)) =>
  newW (.cells #[(.int .u8 (1 : Int)), (.int .u8 (194 : Int))] 5) fun (r25 : Nat) =>
  callW Try.prog 17 [(.slice u24.1 u24.2.1 u24.2.2), (.slice (some (⟨r25, 0, none⟩ : Addr)) 2 2)] (.one (.one .bool)) fun (u26 : Bool) => J6 (u26, ())) <| J6 (false, ())) <| J6 (false, ())) <| J6 (false, ())) <| J6 (false, ())) <| J6 (false, ())) <| J6 (false, ())) <| J6 (false, ())) <| J6 (false, ())) <| J6 (false, ())) fun (y7 : Bool × Unit) => K (.bool y7.1)
theorem eq5  (K : Value → WP) : bodyW Try.prog Try.f5 an5 false [] K = S5  K := by kernel_rfl
theorem calls5  {K : Value → WP} {w : World} (h : S5  K w) : Calls Try.prog 5 #[] w (Ret K) := callsR_of_bodyW mixed Try.func5 (of_decide_eq_true (by kernel_rfl)) (by rw [eq5]; exact h)

/-- shadowbook/shadowbooklaw02.CrcBursts -/
def an7 : Ann := (.seq .nil (.seq (.seq .nil (.cond (.seq .nil .nil) .nil)) (.seq (.seq .nil (.cond (.seq .nil .nil) .nil)) (.seq .nil (.seq .nil (.seq .nil (.seq .nil (.seq (.seq .nil (.cond (.seq .nil .nil) .nil)) (.seq .nil (.seq .nil .nil))))))))))
def S7 (a0 : Option Addr) (n0 c0 : Nat) (x1 : Int) (x2 : Int) (x3 : Int) (K : Value → WP) : WP := 
  callW Try.prog 9 [] (.one (.one .bool)) fun (u1 : Bool) =>
  splitW (!u1) (K (.bool false)) <|
  splitW (decide (((n0 : Nat) : Int) > (300 : Int))) (K (.bool true)) <|
  callW Try.prog 12 [(.slice a0 n0 c0)] (.one (.one .slc)) fun (u2 : (Option Addr × Nat × Nat)) =>
  callW Try.prog 10 [(.slice a0 n0 c0)] (.one (.one (.int .u32))) fun (u3 : Int) =>
  callW Try.prog 11 [(.slice u2.1 u2.2.1 u2.2.2), (.int .u64 (IntKind.wrap .u64 u3)), (.int .i64 (4 : Int))] (.one (.one .slc)) fun (u4 : (Option Addr × Nat × Nat)) =>
  callW Try.prog 23 [(.int .i64 x1), (.int .i64 (IntKind.wrap .i64 ((8 : Int) * ((u4.2.1 : Nat) : Int))))] (.one (.one (.int .i64))) fun (u5 : Int) =>
  callW Try.prog 23 [(.int .i64 x2), (.int .i64 (33 : Int))] (.one (.one (.int .i64))) fun (u6 : Int) =>
  callW Try.prog 14 [(.slice u4.1 u4.2.1 u4.2.2), (.int .i64 u5), (.int .i64 u6), (.int .u32 x3)] (.one (.one .slc)) fun (u7 : (Option Addr × Nat × Nat)) =>
  splitW (decide ((IntKind.wrap .i64 (((u7.2.1 : Nat) : Int) - (4 : Int))) < (0 : Int))) (K (.bool false)) <|
  splitW (((u7.2.1 : Nat) : Int) != ((u4.2.1 : Nat) : Int)) (K (.bool false)) <|
  drewW <|
  guardW (0 ≤ (IntKind.wrap .i64 (((u7.2.1 : Nat) : Int) - (4 : Int))) ∧ (IntKind.wrap .i64 (((u7.2.1 : Nat) : Int) - (4 : Int))) ≤ ((u7.2.2 : Nat) : Int)) <|
  guardW (0 ≤ (IntKind.wrap .i64 (((u7.2.1 : Nat) : Int) - (4 : Int))) ∧ (IntKind.wrap .i64 (((u7.2.1 : Nat) : Int) - (4 : Int))) ≤ ((u7.2.1 : Nat) : Int)) <|
  callW Try.prog 10 [(.slice (cutAddr u7.1 0 u7.2.2 1) (Int.toNat (IntKind.wrap .i64 (((u7.2.1 : Nat) : Int) - (4 : Int)))) u7.2.2)] (.one (.one (.int .u32))) fun (u8 : Int) =>
  callW Try.prog 24 [(.slice (cutAddr u7.1 (Int.toNat (IntKind.wrap .i64 (((u7.2.1 : Nat) : Int) - (4 : Int)))) u7.2.2 1) (u7.2.1 - (Int.toNat (IntKind.wrap .i64 (((u7.2.1 : Nat) : Int) - (4 : Int))))) (u7.2.2 - (Int.toNat (IntKind.wrap .i64 (((u7.2.1 : Nat) : Int) - (4 : Int))))))] (.one (.one (.int .u64))) fun (u9 : Int) =>
  callW Try.prog 17 [(.slice u7.1 u7.2.1 u7.2.2), (.slice u4.1 u4.2.1 u4.2.2)] (.one (.one .bool)) fun (u10 : Bool) => K (.bool (((IntKind.wrap .u64 u8) == u9) == u10))
theorem eq7 (a0 : Option Addr) (n0 c0 : Nat) (x1 : Int) (x2 : Int) (x3 : Int) (K : Value → WP) : bodyW Try.prog Try.f7 an7 false [(.slice a0 n0 c0), (.int .i64 x1), (.int .i64 x2), (.int .u32 x3)] K = S7 a0 n0 c0 x1 x2 x3 K := by kernel_rfl
theorem calls7 (a0 : Option Addr) (n0 c0 : Nat) (x1 : Int) (x2 : Int) (x3 : Int) {K : Value → WP} {w : World} (h : S7 a0 n0 c0 x1 x2 x3 K w) : Calls Try.prog 7 #[(.slice a0 n0 c0), (.int .i64 x1), (.int .i64 x2), (.int .u32 x3)] w (Ret K) := callsR_of_bodyW mixed Try.func7 (of_decide_eq_true (by kernel_rfl)) (by rw [eq7]; exact h)

/-- shadowbook/shadowbooklaw02.CrcParts -/
def an8 : Ann := (.seq .nil (.seq (.seq .nil (.cond (.seq .nil .nil) .nil)) (.seq (.seq .nil (.cond (.seq .nil .nil) .nil)) (.seq .nil (.seq .nil (.seq .nil .nil))))))
def S8 (x0 : Array Value) (x1 : Int) (a2 : Option Addr) (n2 c2 : Nat) (x3 : Int) (x4 : Int) (x5 : Int) (K : Value → WP) : WP := 
  newW (.cells x0 31) fun (r1 : Nat) =>
  callW Try.prog 9 [] (.one (.one .bool)) fun (u2 : Bool) =>
  splitW (!u2) (K (.bool false)) <|
  splitW (decide (((n2 : Nat) : Int) > (300 : Int))) (K (.bool true)) <|
  callW Try.prog 23 [(.int .i64 x3), (.int .i64 (IntKind.wrap .i64 (((n2 : Nat) : Int) + (1 : Int))))] (.one (.one (.int .i64))) fun (u3 : Int) =>
  drewW <|
  ldRW 256 (⟨r1, 0, none⟩ : Addr) fun (u4 : Array Value) =>
  ldRW 256 (⟨r1, 0, none⟩ : Addr) fun (u5 : Array Value) =>
  guardW (0 ≤ u3 ∧ u3 ≤ ((c2 : Nat) : Int)) <|
  guardW (0 ≤ u3 ∧ u3 ≤ ((n2 : Nat) : Int)) <|
  callW Try.prog 16 [(.agg u5), (.int .u32 x1), (.slice (cutAddr a2 0 c2 1) (Int.toNat u3) c2)] (.one (.one (.int .u32))) fun (u6 : Int) =>
  heldW [(cellList (⟨r1, 0, none⟩ : Addr) 0 u4.toList)] <|
  callW Try.prog 16 [(.agg u4), (.int .u32 u6), (.slice (cutAddr a2 (Int.toNat u3) c2 1) (n2 - (Int.toNat u3)) (c2 - (Int.toNat u3)))] (.one (.one (.int .u32))) fun (u7 : Int) =>
  ldRW 256 (⟨r1, 0, none⟩ : Addr) fun (u8 : Array Value) =>
  callW Try.prog 16 [(.agg u8), (.int .u32 x1), (.slice a2 n2 c2)] (.one (.one (.int .u32))) fun (u9 : Int) =>
  splitW (u7 == u9) (callW Try.prog 14 [(.slice a2 n2 c2), (.int .i64 x4), (.int .i64 (32 : Int)), (.int .u32 x5)] (.one (.one .slc)) fun (u10 : (Option Addr × Nat × Nat)) =>
  callW Try.prog 14 [(.slice u10.1 u10.2.1 u10.2.2), (.int .i64 x4), (.int .i64 (32 : Int)), (.int .u32 x5)] (.one (.one .slc)) fun (u11 : (Option Addr × Nat × Nat)) =>
  callW Try.prog 17 [(.slice u11.1 u11.2.1 u11.2.2), (.slice a2 n2 c2)] (.one (.one .bool)) fun (u12 : Bool) => K (.bool u12)) <| K (.bool false)
theorem eq8 (x0 : Array Value) (x1 : Int) (a2 : Option Addr) (n2 c2 : Nat) (x3 : Int) (x4 : Int) (x5 : Int) (K : Value → WP) : bodyW Try.prog Try.f8 an8 false [(.agg x0), (.int .u32 x1), (.slice a2 n2 c2), (.int .i64 x3), (.int .i64 x4), (.int .u32 x5)] K = S8 x0 x1 a2 n2 c2 x3 x4 x5 K := by kernel_rfl
theorem calls8 (x0 : Array Value) (x1 : Int) (a2 : Option Addr) (n2 c2 : Nat) (x3 : Int) (x4 : Int) (x5 : Int) {K : Value → WP} {w : World} (h : S8 x0 x1 a2 n2 c2 x3 x4 x5 K w) : Calls Try.prog 8 #[(.agg x0), (.int .u32 x1), (.slice a2 n2 c2), (.int .i64 x3), (.int .i64 x4), (.int .u32 x5)] w (Ret K) := callsR_of_bodyW mixed Try.func8 (of_decide_eq_true (by kernel_rfl)) (by rw [eq8]; exact h)

/-- shadowbook/shadowbooklaw02.CrcCalls -/
def an6 : Ann := (.seq .nil (.seq (.seq .nil (.cond (.seq .nil .nil) .nil)) (.seq (.seq .nil (.cond (.seq .nil .nil) .nil)) (.seq .nil .nil))))
def S6 (x0 : Array Value) (x1 : Int) (a2 : Option Addr) (n2 c2 : Nat) (x3 : Int) (x4 : Int) (x5 : Int) (K : Value → WP) : WP := 
  newW (.cells x0 31) fun (r1 : Nat) =>
  callW Try.prog 9 [] (.one (.one .bool)) fun (u2 : Bool) =>
  splitW (!u2) (K (.bool false)) <|
  splitW (decide (((n2 : Nat) : Int) > (300 : Int))) (K (.bool true)) <|
  drewW <|
  callW Try.prog 13 [] (.one (.arr 256)) fun (u3 : Array Value) =>
  callW Try.prog 18 [] (.one (.arr 256)) fun (u4 : Array Value) =>
  eqW Try.prog (eqS .eql 31 (.tmp 18) (.tmp 19) (.agg u3) (.agg u4)) fun (b5 : Bool) =>
  splitW b5 (ldRW 256 (⟨r1, 0, none⟩ : Addr) fun (u6 : Array Value) =>
  ldRW 256 (⟨r1, 0, none⟩ : Addr) fun (u7 : Array Value) =>
  callW Try.prog 16 [(.agg u6), (.int .u32 x1), (.slice a2 n2 c2)] (.one (.one (.int .u32))) fun (u8 : Int) =>
  heldW [(cellList (⟨r1, 0, none⟩ : Addr) 0 u7.toList)] <|
  callW Try.prog 19 [(.agg u7), (.int .u32 x1), (.slice a2 n2 c2)] (.one (.one (.int .u32))) fun (u9 : Int) =>
  splitW (u8 == u9) (ldRW 256 (⟨r1, 0, none⟩ : Addr) fun (u10 : Array Value) =>
  ldRW 256 (⟨r1, 0, none⟩ : Addr) fun (u11 : Array Value) =>
  callW Try.prog 15 [(.agg u10), (.slice a2 n2 c2)] (.one (.one (.int .u32))) fun (u12 : Int) =>
  heldW [(cellList (⟨r1, 0, none⟩ : Addr) 0 u11.toList)] <|
  callW Try.prog 20 [(.agg u11), (.slice a2 n2 c2)] (.one (.one (.int .u32))) fun (u13 : Int) =>
  splitW (u12 == u13) (callW Try.prog 10 [(.slice a2 n2 c2)] (.one (.one (.int .u32))) fun (u14 : Int) =>
  callW Try.prog 21 [(.slice a2 n2 c2)] (.one (.one (.int .u32))) fun (u15 : Int) =>
  splitW (u14 == u15) (callW Try.prog 14 [(.slice a2 n2 c2), (.int .i64 x3), (.int .i64 x4), (.int .u32 x5)] (.one (.one .slc)) fun (u16 : (Option Addr × Nat × Nat)) =>
  callW Try.prog 22 [(.slice a2 n2 c2), (.int .i64 x3), (.int .i64 x4), (.int .u32 x5)] (.one (.one .slc)) fun (u17 : (Option Addr × Nat × Nat)) =>
  callW Try.prog 17 [(.slice u16.1 u16.2.1 u16.2.2), (.slice u17.1 u17.2.1 u17.2.2)] (.one (.one .bool)) fun (u18 : Bool) => K (.bool u18)) <| K (.bool false)) <| K (.bool false)) <| K (.bool false)) <| K (.bool false)
theorem eq6 (x0 : Array Value) (x1 : Int) (a2 : Option Addr) (n2 c2 : Nat) (x3 : Int) (x4 : Int) (x5 : Int) (K : Value → WP) : bodyW Try.prog Try.f6 an6 false [(.agg x0), (.int .u32 x1), (.slice a2 n2 c2), (.int .i64 x3), (.int .i64 x4), (.int .u32 x5)] K = S6 x0 x1 a2 n2 c2 x3 x4 x5 K := by kernel_rfl
theorem calls6 (x0 : Array Value) (x1 : Int) (a2 : Option Addr) (n2 c2 : Nat) (x3 : Int) (x4 : Int) (x5 : Int) {K : Value → WP} {w : World} (h : S6 x0 x1 a2 n2 c2 x3 x4 x5 K w) : Calls Try.prog 6 #[(.agg x0), (.int .u32 x1), (.slice a2 n2 c2), (.int .i64 x3), (.int .i64 x4), (.int .u32 x5)] w (Ret K) := callsR_of_bodyW mixed Try.func6 (of_decide_eq_true (by kernel_rfl)) (by rw [eq6]; exact h)

end Go.Proofs.Ytoaobmfffcipfaa.V
