/- Contracts of the package crc. -/
import Derived.Test.YtpbjbhcejgnhiaaDoorS
import Derived.Test.YtpbjbhcejgnhiaaDoorH3
import Derived.Test.YtpbjbhcejgnhiaaDoorNum2
import Derived.Test.YtpbjbhcejgnhiaaDoorCrc2
import Derived.Test.YtpbjbhcejgnhiaaDoorKKit
set_option linter.unusedVariables false
set_option linter.unusedSimpArgs false
namespace Go.Proofs.YtpbjbhcejgnhiaaDoor.V
open Go Go.Proofs Crc

def tabV (T : List W32) : List Value := T.map fun t => .int .u32 (t.toNat : Int)
theorem length_tabV (T : List W32) : (tabV T).length = T.length := by simp [tabV]
theorem tabV_get {T : List W32} {i : Nat} (h : i < T.length) : (tabV T)[i]? = some (.int .u32 ((T.getD i 0).toNat : Int)) := by
  simp [tabV, h]

/-- What Flip gives. -/
def flipG (bs : List UInt8) (bit n : Int) (m : W32) : List UInt8 := if bit < 0 ∨ n < 0 ∨ n > 32 then bs else flip bs bit.toNat n.toNat m
theorem length_flipG (bs : List UInt8) (bit n : Int) (m : W32) : (flipG bs bit n m).length = bs.length := by
  unfold flipG; split
  · rfl
  · exact length_flip _ _ _ _
theorem flip_calls {w : World} {A : Option Addr} {n c : Nat} {bs : List UInt8} {bit k : Int} {m : W32} (h : Sl w A n (bV bs)) (hn : n ≤ 1000000000) (hb0 : -9223372036854775808 ≤ bit) (hb1 : bit < 9223372036854775808) :
    Calls Tryd.prog 50 #[.slice A n c, .int .i64 bit, .int .i64 k, .int .u32 (m.toNat : Int)] w (Ret (Bytes w (flipG bs bit k m))) := by
  apply calls50
  unfold S50
  refine callW_of (clone_calls h (by omega)) ?_
  rintro _ w1 ⟨⟨A1, n1, c1⟩, rfl, ho, he⟩
  refine ⟨_, rfl, ?_⟩
  dsimp only at ho ⊢
  have hln := h.blen
  obtain rfl : n1 = n := by have := ho.sl.blen; omega
  refine joinW_s (fun (x : (Option Addr × Nat × Nat) × Unit) w' => ∃ A1 c1, x = ((A1, n1, c1), ()) ∧ Own 5 w' w.heap.size A1 n1 c1 (bV bs) ∧ Ext w w') ?_ ?_
  · rintro _ w2 ⟨A1, c1, rfl, ho, he⟩
    dsimp only
    unfold flipG
    refine splitW_i (fun hb => ?_) (fun hb => ?_)
    · rw [if_pos (.inl (of_decide_eq_true hb))]; exact bytes_ret ho he
    refine splitW_i (fun hk => ?_) (fun hk => ?_)
    · rw [if_pos (.inr (.inl (of_decide_eq_true hk)))]; exact bytes_ret ho he
    refine splitW_i (fun hk2 => ?_) (fun hk2 => ?_)
    · rw [if_pos (.inr (.inr (of_decide_eq_true hk2)))]; exact bytes_ret ho he
    have hb := of_decide_eq_false hb
    have hk := of_decide_eq_false hk
    have hk2 := of_decide_eq_false hk2
    rw [if_neg (by omega)]
    obtain ⟨b, rfl⟩ : ∃ b : Nat, bit = b := ⟨bit.toNat, by omega⟩
    obtain ⟨k, rfl⟩ : ∃ k' : Nat, k = k' := ⟨k.toNat, by omega⟩
    rw [Int.toNat_natCast, Int.toNat_natCast]
    refine loopW_i (fun x w' => ∃ i : Nat, i ≤ k ∧ x = ((i : Int), ()) ∧ Own 5 w' w.heap.size A1 n1 c1 (bV (flip bs b i m)) ∧ Ext w w') (fun x => (k - x.1).toNat) ⟨0, by omega, rfl, by rw [flip_zero]; exact ho, he⟩ ?_
    rintro _ w3 ⟨i, hi, rfl, ho, he⟩
    dsimp only
    by_cases hlt : i < k
    · refine splitW_t (decide_eq_true (by omega)) ?_
      have eat : IntKind.wrap .i64 ((IntKind.wrap .i64 (Int.tdiv (b : Int) (8 : Int))) + (IntKind.wrap .i64 (Int.tdiv (IntKind.wrap .i64 ((Int.tmod (b : Int) (8 : Int)) + (i : Int))) (8 : Int)))) = ((b / 8 + (b % 8 + i) / 8 : Nat) : Int) := by
        rw [show Int.tdiv (b : Int) 8 = ((b / 8 : Nat) : Int) from rfl, show Int.tmod (b : Int) 8 = ((b % 8 : Nat) : Int) from rfl]
        rw [wrap_i64 (x := ((b / 8 : Nat) : Int)) (by omega) (by omega), wrap_i64 (x := ((b % 8 : Nat) : Int) + (i : Int)) (by omega) (by omega)]
        rw [show Int.tdiv (((b % 8 : Nat) : Int) + (i : Int)) 8 = (((b % 8 + i) / 8 : Nat) : Int) from rfl]
        rw [wrap_i64 (x := (((b % 8 + i) / 8 : Nat) : Int)) (by omega) (by omega), wrap_i64 (by omega) (by omega)]
        rfl
      rw [eat, show b / 8 + (b % 8 + i) / 8 = (b + i) / 8 by omega]
      by_cases hin : (b + i) / 8 < n1
      · refine splitW_f (decide_eq_false (by omega)) ?_
        have he' := he.drew
        have ho' := ho.ext (Ext.refl w3).drew
        refine idx_byte ho'.sl (by omega) (by omega) ?_
        rw [Int.toNat_natCast]
        refine ⟨by omega, ?_⟩
        have e2 : Int.tmod (IntKind.wrap .i64 ((b : Int) + (i : Int))) 8 = (((b + i) % 8 : Nat) : Int) := by
          rw [wrap_i64 (by omega) (by omega)]; rfl
        rw [e2]
        refine ⟨by omega, ?_⟩
        refine idx_set ho' (by omega) (by omega) ?_
        intro w4 ho4 hg4
        rw [Int.toNat_natCast] at ho4
        refine ⟨⟨i + 1, by omega, ?_, ?_, ?_⟩, ?_⟩
        · rw [wrap_i64 (by omega) (by omega)]; rfl
        · have e3 : IntKind.wrap .u8 (iand .u32 (ishr .u32 (m.toNat : Int) (i : Int)) (1 : Int)) = ((BitVec.ofNat 8 (m.getLsbD i).toNat).toNat : Int) := by
            rw [ishr32 m i (by omega), show iand .u32 ((m >>> i).toNat : Int) (1 : Int) = (((m >>> i) &&& 1#32).toNat : Int) from iand32 _ 1#32]
            have : (m >>> i &&& 1#32) = BitVec.ofNat 32 (m.getLsbD i).toNat := by
              apply BitVec.eq_of_toNat_eq
              rw [BitVec.toNat_and, BitVec.toNat_ushiftRight, BitVec.toNat_ofNat, BitVec.toNat_ofNat, Nat.and_one_is_mod]
              rw [show m.getLsbD i = m.toNat.testBit i from rfl, Nat.testBit_eq_decide_div_mod_eq, Nat.shiftRight_eq_div_pow]
              rcases Nat.mod_two_eq_zero_or_one (m.toNat / 2 ^ i) with h | h <;> simp [h]
            rw [this]
            cases m.getLsbD i <;> decide
          rw [e3] at ho4
          have e4 : ishl .u8 ((BitVec.ofNat 8 (m.getLsbD i).toNat).toNat : Int) (((b + i) % 8 : Nat) : Int) = ((BitVec.ofNat 8 (m.getLsbD i).toNat <<< ((b + i) % 8)).toNat : Int) := by
            rw [ishl_nat (k := .u8) rfl _ _ (by simp [IntKind.bits]; omega), BitVec.toNat_shiftLeft, Nat.shiftLeft_eq]
            rfl
          rw [e4, u8_toBitVec, ixor8] at ho4
          have e5 := flip_succ (bs := bs) (bit := b) (n := i) (m := m) (by omega)
          rw [e5, ← bV_set]
          exact ho4
        · exact (he'.grown hg4 ho'.row)
        · rw [wrap_i64 (by omega) (by omega)]; omega
      · refine splitW_t (decide_eq_true (by omega)) ?_
        rw [flip_beyond (n := i) (k := k) (by omega) hi]
        exact bytes_ret ho he
    · obtain rfl : i = k := by omega
      refine splitW_f (decide_eq_false (by omega)) ?_
      exact bytes_ret ho he
  · intro J hJ
    refine splitW_i (fun hA => ?_) (fun hA => ?_)
    · apply newW_i
      have hA : A1 = none := by simpa using hA
      subst hA
      have hn0 : n1 = 0 := by
        rcases Nat.eq_zero_or_pos n1 with h0 | h0
        · exact h0
        · obtain ⟨b, h1, _⟩ := ho.addr h0; cases h1
      subst hn0
      have hbs : bs = [] := List.eq_nil_of_length_eq_zero hln
      subst hbs
      refine hJ _ _ ⟨_, 0, rfl, ?_, he.alloc _⟩
      exact Own.lit (cs := #[]) he.size (by simp)
    · exact hJ _ _ ⟨A1, c1, rfl, ho, he⟩
end Go.Proofs.YtpbjbhcejgnhiaaDoor.V
