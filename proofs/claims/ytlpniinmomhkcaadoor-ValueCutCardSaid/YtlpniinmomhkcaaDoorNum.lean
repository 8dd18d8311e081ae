/- Whole numbers as the model has them, and words of bits. -/
import Derived.Test.YtlpniinmomhkcaaDoorV
set_option linter.unusedVariables false
set_option linter.unusedSimpArgs false
namespace Go.Proofs.YtlpniinmomhkcaaDoor.V
open Go
theorem wrap_u8 (x : Int) : IntKind.wrap .u8 x = x % 256 := by simp [IntKind.wrap, IntKind.signed, IntKind.bits]
theorem wrap_u16 (x : Int) : IntKind.wrap .u16 x = x % 65536 := by simp [IntKind.wrap, IntKind.signed, IntKind.bits]
theorem wrap_u32 (x : Int) : IntKind.wrap .u32 x = x % 4294967296 := by simp [IntKind.wrap, IntKind.signed, IntKind.bits]
theorem wrap_u64 (x : Int) : IntKind.wrap .u64 x = x % 18446744073709551616 := by simp [IntKind.wrap, IntKind.signed, IntKind.bits]
theorem wrap_i64' (x : Int) : IntKind.wrap .i64 x = if x % 18446744073709551616 ≥ 9223372036854775808 then x % 18446744073709551616 - 18446744073709551616 else x % 18446744073709551616 := by
  simp [IntKind.wrap, IntKind.signed, IntKind.bits]
theorem wrap_i64 {x : Int} (h0 : -9223372036854775808 ≤ x) (h1 : x < 9223372036854775808) : IntKind.wrap .i64 x = x := by
  rw [wrap_i64']
  split <;> omega
theorem wrap_i64_nat {x : Int} (h0 : 0 ≤ x) (h1 : x ≤ 9223372036854775807) : IntKind.wrap .i64 x = x := wrap_i64 (by omega) (by omega)
theorem ofInt_toNat {n : Nat} (b : BitVec n) : BitVec.ofInt n (b.toNat : Int) = b := by
  apply BitVec.eq_of_toNat_eq
  have hlt := b.isLt
  rw [BitVec.toNat_ofInt]
  have h2 : ((b.toNat : Int) % (2 ^ n : Nat)).toNat = b.toNat := by
    rw [Int.emod_eq_of_lt (by omega) (by exact_mod_cast hlt)]
    simp
  exact_mod_cast h2
theorem wrap_bv32 (b : BitVec 32) : IntKind.wrap .u32 (b.toNat : Int) = b.toNat := by rw [wrap_u32]; have := b.isLt; omega
theorem wrap_bv8 (b : BitVec 8) : IntKind.wrap .u8 (b.toNat : Int) = b.toNat := by rw [wrap_u8]; have := b.isLt; omega
theorem wrap_bv64 (b : BitVec 64) : IntKind.wrap .u64 (b.toNat : Int) = b.toNat := by rw [wrap_u64]; have := b.isLt; omega
theorem ixor32 (a b : BitVec 32) : ixor .u32 (a.toNat : Int) (b.toNat : Int) = ((a ^^^ b).toNat : Int) := by
  have h1 : BitVec.ofInt (IntKind.bits .u32) (a.toNat : Int) = a := ofInt_toNat a
  have h2 : BitVec.ofInt (IntKind.bits .u32) (b.toNat : Int) = b := ofInt_toNat b
  unfold ixor
  rw [h1, h2]
  exact wrap_bv32 _
theorem iand32 (a b : BitVec 32) : iand .u32 (a.toNat : Int) (b.toNat : Int) = ((a &&& b).toNat : Int) := by
  have h1 : BitVec.ofInt (IntKind.bits .u32) (a.toNat : Int) = a := ofInt_toNat a
  have h2 : BitVec.ofInt (IntKind.bits .u32) (b.toNat : Int) = b := ofInt_toNat b
  unfold iand
  rw [h1, h2]
  exact wrap_bv32 _
theorem ixor8 (a b : BitVec 8) : ixor .u8 (a.toNat : Int) (b.toNat : Int) = ((a ^^^ b).toNat : Int) := by
  have h1 : BitVec.ofInt (IntKind.bits .u8) (a.toNat : Int) = a := ofInt_toNat a
  have h2 : BitVec.ofInt (IntKind.bits .u8) (b.toNat : Int) = b := ofInt_toNat b
  unfold ixor
  rw [h1, h2]
  exact wrap_bv8 _
theorem inot32 (a : BitVec 32) : inot .u32 (a.toNat : Int) = ((~~~ a).toNat : Int) := by
  have h0 : (if IntKind.signed .u32 then (-1 : Int) else IntKind.max .u32) = 4294967295 := by decide
  unfold inot
  rw [h0]
  unfold ixor
  show IntKind.wrap .u32 ((BitVec.ofInt 32 4294967295 ^^^ BitVec.ofInt 32 (a.toNat : Int)).toNat : Int) = _
  rw [ofInt_toNat, show BitVec.ofInt 32 4294967295 = BitVec.allOnes 32 from by decide, BitVec.allOnes_xor]
  exact wrap_bv32 _
theorem ishr32 (a : BitVec 32) (n : Nat) (h : n ≤ 32) : ishr .u32 (a.toNat : Int) (n : Int) = ((a >>> n).toNat : Int) := by
  unfold ishr
  have e : min (n : Int).toNat (IntKind.bits .u32) = n := by simp [IntKind.bits]; omega
  rw [e, BitVec.toNat_ushiftRight, Nat.shiftRight_eq_div_pow]
  rw [Int.fdiv_eq_ediv_of_nonneg _ (by exact_mod_cast Nat.zero_le _)]
  exact_mod_cast rfl
theorem wrap_u8_bv32 (a : BitVec 32) : IntKind.wrap .u8 (a.toNat : Int) = ((a.setWidth 8).toNat : Int) := by
  rw [wrap_u8, BitVec.toNat_setWidth]
  simp only [Nat.reducePow]
  omega
theorem u8_toBitVec (b : UInt8) : (b.toNat : Int) = (b.toBitVec.toNat : Int) := rfl
end Go.Proofs.YtlpniinmomhkcaaDoor.V
