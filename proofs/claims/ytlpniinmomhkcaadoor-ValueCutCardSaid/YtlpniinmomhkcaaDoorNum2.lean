/- Words as natural numbers; bytes, least first. -/
import Derived.Test.YtlpniinmomhkcaaDoorNum
set_option linter.unusedVariables false
set_option linter.unusedSimpArgs false
namespace Go.Proofs.YtlpniinmomhkcaaDoor.V
open Go

theorem wrap_uns {k : IntKind} (hk : k.signed = false) (x : Int) : k.wrap x = x % (2 ^ k.bits : Nat) := by
  unfold IntKind.wrap
  simp [hk]
theorem wrap_uns_nat {k : IntKind} (hk : k.signed = false) {a : Nat} (ha : a < 2 ^ k.bits) : k.wrap (a : Int) = a := by
  rw [wrap_uns hk, ← Int.natCast_emod, Nat.mod_eq_of_lt ha]
theorem ofInt_nat (n a : Nat) : BitVec.ofInt n (a : Int) = BitVec.ofNat n a := BitVec.ofInt_natCast n a
theorem ior_nat {k : IntKind} (hk : k.signed = false) {a b : Nat} (ha : a < 2 ^ k.bits) (hb : b < 2 ^ k.bits) : ior k (a : Int) (b : Int) = ((a ||| b : Nat) : Int) := by
  unfold ior
  rw [ofInt_nat, ofInt_nat, BitVec.toNat_or, BitVec.toNat_ofNat, BitVec.toNat_ofNat, Nat.mod_eq_of_lt ha, Nat.mod_eq_of_lt hb]
  exact wrap_uns_nat hk (Nat.or_lt_two_pow ha hb)
theorem iand_nat {k : IntKind} (hk : k.signed = false) {a b : Nat} (ha : a < 2 ^ k.bits) (hb : b < 2 ^ k.bits) : iand k (a : Int) (b : Int) = ((a &&& b : Nat) : Int) := by
  unfold iand
  rw [ofInt_nat, ofInt_nat, BitVec.toNat_and, BitVec.toNat_ofNat, BitVec.toNat_ofNat, Nat.mod_eq_of_lt ha, Nat.mod_eq_of_lt hb]
  exact wrap_uns_nat hk (Nat.and_lt_two_pow a hb)
theorem ixor_nat {k : IntKind} (hk : k.signed = false) {a b : Nat} (ha : a < 2 ^ k.bits) (hb : b < 2 ^ k.bits) : ixor k (a : Int) (b : Int) = ((a ^^^ b : Nat) : Int) := by
  unfold ixor
  rw [ofInt_nat, ofInt_nat, BitVec.toNat_xor, BitVec.toNat_ofNat, BitVec.toNat_ofNat, Nat.mod_eq_of_lt ha, Nat.mod_eq_of_lt hb]
  exact wrap_uns_nat hk (Nat.xor_lt_two_pow ha hb)
theorem ishr_nat (k : IntKind) (a n : Nat) (h : n ≤ k.bits) : ishr k (a : Int) (n : Int) = ((a / 2 ^ n : Nat) : Int) := by
  unfold ishr
  rw [Int.toNat_natCast, Nat.min_eq_left h, Int.fdiv_eq_ediv_of_nonneg _ (by exact_mod_cast Nat.zero_le _)]
  exact_mod_cast rfl
theorem ishl_nat {k : IntKind} (hk : k.signed = false) (a n : Nat) (h : n ≤ k.bits) : ishl k (a : Int) (n : Int) = ((a * 2 ^ n % 2 ^ k.bits : Nat) : Int) := by
  unfold ishl
  rw [Int.toNat_natCast, Nat.min_eq_left h, wrap_uns hk]
  exact_mod_cast rfl
theorem wrap_u8_nat (a : Nat) : IntKind.wrap .u8 (a : Int) = ((UInt8.ofNat a).toNat : Int) := by
  rw [wrap_u8, UInt8.toNat_ofNat']
  omega
theorem wrap_u64_nat {a : Nat} (h : a < 18446744073709551616) : IntKind.wrap .u64 (a : Int) = a := by rw [wrap_u64]; omega
theorem wrap_u32_nat {a : Nat} (h : a < 4294967296) : IntKind.wrap .u32 (a : Int) = a := by rw [wrap_u32]; omega
/-- n bytes of a number, the least first. -/
def le (n v : Nat) : List UInt8 := (List.range n).map fun i => UInt8.ofNat (v / 256 ^ i)
theorem le_length (n v : Nat) : (le n v).length = n := by simp [le]
theorem le_succ (n v : Nat) : le (n + 1) v = le n v ++ [UInt8.ofNat (v / 256 ^ n)] := by simp [le, List.range_succ]
def lev : List UInt8 → Nat
  | [] => 0
  | b :: r => b.toNat + 256 * lev r
theorem lev_lt : ∀ bs : List UInt8, lev bs < 256 ^ bs.length
  | [] => by simp [lev]
  | b :: r => by
    have h1 := lev_lt r
    have h2 := b.toNat_lt
    simp only [lev, List.length_cons, Nat.pow_succ]
    omega
theorem lev_append : ∀ (a b : List UInt8), lev (a ++ b) = lev a + 256 ^ a.length * lev b
  | [], b => by simp [lev]
  | x :: r, b => by
    simp only [List.cons_append, lev, lev_append r b, List.length_cons, Nat.pow_succ, Nat.mul_add]
    rw [Nat.mul_comm (256 ^ r.length) 256, Nat.mul_assoc]
    omega
theorem lev_le (n v : Nat) : lev (le n v) = v % 256 ^ n := by
  induction n with
  | zero => simp [le, lev, Nat.mod_one]
  | succ n ih =>
    rw [le_succ, lev_append, ih, le_length]
    simp only [lev, Nat.mul_zero, Nat.add_zero, UInt8.toNat_ofNat', Nat.reducePow]
    rw [Nat.mod_pow_succ]
theorem le_lev : ∀ bs : List UInt8, le bs.length (lev bs) = bs := by
  intro bs
  induction bs with
  | nil => rfl
  | cons b r ih =>
    have e : le (r.length + 1) (b.toNat + 256 * lev r) = UInt8.ofNat (b.toNat + 256 * lev r) :: le r.length (lev r) := by
      simp only [le, List.range_succ_eq_map, List.map_cons, List.map_map, Nat.pow_zero, Nat.div_one]
      congr 1
      apply List.map_congr_left
      intro i _
      simp only [Function.comp, Nat.succ_eq_add_one]
      congr 1
      rw [Nat.pow_succ, Nat.mul_comm (256 ^ i) 256, ← Nat.div_div_eq_div_mul]
      have := b.toNat_lt
      congr 1
      omega
    simp only [lev, List.length_cons]
    rw [e, ih]
    congr 1
    apply UInt8.toNat_inj.1
    rw [UInt8.toNat_ofNat']
    have := b.toNat_lt
    omega
end Go.Proofs.YtlpniinmomhkcaaDoor.V
