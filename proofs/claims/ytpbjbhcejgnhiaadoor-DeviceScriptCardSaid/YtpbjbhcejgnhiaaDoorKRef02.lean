/- Contracts of the document's answer, chapter 2. -/
import Derived.Test.YtpbjbhcejgnhiaaDoorKCrc
set_option linter.unusedVariables false
set_option linter.unusedSimpArgs false
namespace Go.Proofs.YtpbjbhcejgnhiaaDoor.V
open Go Go.Proofs Crc
theorem rflip_calls {w : World} {A : Option Addr} {n c : Nat} {bs : List UInt8} {bit k : Int} {m : W32} (h : Sl w A n (bV bs)) (hn : n ≤ 1000000000) (hb0 : -9223372036854775808 ≤ bit) (hb1 : bit < 9223372036854775808) :
    Calls Tryd.prog 27 #[.slice A n c, .int .i64 bit, .int .i64 k, .int .u32 (m.toNat : Int)] w (Ret (Bytes w (flipG bs bit k m))) := by
  apply calls27
  unfold S27
  have hln := h.blen
  refine own_of h (by omega) ?_
  intro A1 c1 w2 ho he
  dsimp only
  unfold flipG
  refine splitW_i (fun hb => ?_) (fun hb => ?_)
  · rw [if_pos (.inl (of_decide_eq_true hb))]; exact bytes_ret ho he
  refine splitW_i (fun hk => ?_) (fun hk => ?_)
  · rw [if_pos (.inr (.inl (of_decide_eq_true hk)))]; exact bytes_ret ho he
  refine splitW_i (fun hk2 => ?_) (fun hk2 => ?_)
  · rw [if_pos (.inr (.inr (of_decide_eq_true hk2)))]; exact bytes_ret ho he
  have hb := of_decide_eq_false hb
  have hk := of_decide_eq_false hk
  have hk2 := of_decide_eq_false hk2
  rw [if_neg (by omega)]
  obtain ⟨b, rfl⟩ : ∃ b : Nat, bit = b := ⟨bit.toNat, by omega⟩
  obtain ⟨k, rfl⟩ : ∃ k' : Nat, k = k' := ⟨k.toNat, by omega⟩
  rw [Int.toNat_natCast, Int.toNat_natCast]
  refine loopW_i (fun x w' => ∃ i : Nat, i ≤ k ∧ x = ((i : Int), ()) ∧ Own 5 w' w.heap.size A1 n c1 (bV (flip bs b i m)) ∧ Ext w w') (fun x => (k - x.1).toNat) ⟨0, by omega, rfl, by rw [flip_zero]; exact ho, he⟩ ?_
  rintro _ w3 ⟨i, hi, rfl, ho, he⟩
  dsimp only
  by_cases hlt : i < k
  · refine splitW_t (decide_eq_true (by omega)) ?_
    rw [show IntKind.wrap .i64 ((8 : Int) * (n : Int)) = ((8 * n : Nat) : Int) from by rw [wrap_i64 (by omega) (by omega)]; omega]
    refine splitW_i (fun h1 => ?_) (fun h1 => ?_)
    · have h1 := of_decide_eq_true h1
      rw [flip_beyond (n := i) (k := k) (by omega) hi]
      exact bytes_ret ho he
    have h1 := of_decide_eq_false h1
    rw [show IntKind.wrap .i64 (((8 * n : Nat) : Int) - (b : Int)) = ((8 * n - b : Nat) : Int) from by rw [wrap_i64 (by omega) (by omega)]; omega]
    refine splitW_i (fun h2 => ?_) (fun h2 => ?_)
    · have h2 := of_decide_eq_true h2
      rw [flip_beyond (n := i) (k := k) (by omega) hi]
      exact bytes_ret ho he
    have h2 := of_decide_eq_false h2
    rw [wrap_u64_nat (by omega)]
    refine ⟨by omega, ?_⟩
    have eat : IntKind.wrap .i64 (Int.tdiv (IntKind.wrap .i64 ((b : Int) + (i : Int))) (8 : Int)) = (((b + i) / 8 : Nat) : Int) := by
      rw [wrap_i64 (x := (b : Int) + (i : Int)) (by omega) (by omega), show Int.tdiv ((b : Int) + (i : Int)) 8 = (((b + i) / 8 : Nat) : Int) from rfl, wrap_i64 (by omega) (by omega)]
    have er : IntKind.wrap .u64 (Int.tmod (IntKind.wrap .i64 ((b : Int) + (i : Int))) (8 : Int)) = (((b + i) % 8 : Nat) : Int) := by
      rw [wrap_i64 (x := (b : Int) + (i : Int)) (by omega) (by omega), show Int.tmod ((b : Int) + (i : Int)) 8 = (((b + i) % 8 : Nat) : Int) from rfl, wrap_u64_nat (by omega)]
    rw [eat, er]
    have hbit : Int.tmod (ishr .u32 (m.toNat : Int) (i : Int)) (2 : Int) = ((m.getLsbD i).toNat : Int) := by
      rw [ishr_nat .u32 m.toNat i (by simp [IntKind.bits]; omega), show m.getLsbD i = m.toNat.testBit i from rfl, Nat.testBit_eq_decide_div_mod_eq]
      rw [show Int.tmod ((m.toNat / 2 ^ i : Nat) : Int) (2 : Int) = ((m.toNat / 2 ^ i % 2 : Nat) : Int) from rfl]
      rcases Nat.mod_two_eq_zero_or_one (m.toNat / 2 ^ i) with h | h <;> simp [h]
    rw [hbit]
    refine splitW_i (fun h3 => ?_) (fun h3 => ?_)
    · have h3 : m.getLsbD i = true := by
        cases hc : m.getLsbD i with
        | true => rfl
        | false => rw [hc] at h3; cases h3
      refine idx_byte ho.sl (by omega) (by omega) ?_
      rw [Int.toNat_natCast]
      refine ⟨by omega, ?_⟩
      refine idx_set ho (by omega) (by omega) ?_
      intro w4 ho4 hg4
      rw [Int.toNat_natCast] at ho4
      refine ⟨⟨i + 1, by omega, ?_, ?_, he.grown hg4 ho.row⟩, ?_⟩
      · rw [wrap_i64 (by omega) (by omega)]; rfl
      · have e4 : ishl .u8 (1 : Int) (((b + i) % 8 : Nat) : Int) = ((BitVec.ofNat 8 (m.getLsbD i).toNat <<< ((b + i) % 8)).toNat : Int) := by
          rw [h3, show (1 : Int) = ((1 : Nat) : Int) from rfl, ishl_nat (k := .u8) rfl _ _ (by simp [IntKind.bits]; omega), BitVec.toNat_shiftLeft, Nat.shiftLeft_eq]
          rfl
        rw [e4, u8_toBitVec, ixor8] at ho4
        have e5 := flip_succ (bs := bs) (bit := b) (n := i) (m := m) (by omega)
        rw [e5, ← bV_set]
        exact ho4
      · rw [wrap_i64 (by omega) (by omega)]; omega
    · have h3 : m.getLsbD i = false := by
        cases hc : m.getLsbD i with
        | false => rfl
        | true => rw [hc] at h3; cases h3
      refine ⟨⟨i + 1, by omega, ?_, ?_, he⟩, ?_⟩
      · rw [wrap_i64 (by omega) (by omega)]; rfl
      · rw [flip_same h3]; exact ho
      · rw [wrap_i64 (by omega) (by omega)]; omega
  · obtain rfl : i = k := by omega
    refine splitW_f (decide_eq_false (by omega)) ?_
    exact bytes_ret ho he
end Go.Proofs.YtpbjbhcejgnhiaaDoor.V
