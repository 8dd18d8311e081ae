/- Contracts of the package device: sectors, an iterator with a state of its own. -/
import Derived.Test.YtpbjbhcejgnhiaaDoorKDev5
import Derived.Lib.TrailingZeros
set_option linter.unusedVariables false
set_option linter.unusedSimpArgs false
namespace Go.Proofs.YtpbjbhcejgnhiaaDoor.V
open Go Go.Proofs Go.RowKit Crc

/-- The table of bits.TrailingZeros64 in its variable. -/
def DeB (w : World) : Prop := ∀ j, j < 64 → w.cell? ⟨0, j, none⟩ = some (.int .u8 (Lib.deBruijn64tab.getD j 0 : Nat))
theorem DeB.ext {w w' : World} (h : DeB w) (he : Ext w w') : DeB w' := fun j hj => he.cell (h j hj)
def ctz (m : Nat) : Nat := Lib.ctz 64 m
theorem ctz_spec {m : Nat} (h0 : m ≠ 0) (h : m < 18446744073709551616) : ∃ q, m = 2 ^ ctz m * (2 * q + 1) ∧ ctz m < 64 := by
  have := Lib.ctzFrom_spec 64 m (by omega) (by omega)
  unfold ctz Lib.ctz
  rw [if_neg h0]
  exact this
theorem low_bit {m : Nat} (h0 : m ≠ 0) (h : m < 18446744073709551616) (j : Nat) : (m &&& (m - 1)).testBit j = (m.testBit j && decide (j ≠ ctz m)) := by
  obtain ⟨q, e, hk⟩ := ctz_spec h0 h
  generalize ctz m = k at e hk ⊢
  have hp : 0 < 2 ^ k := Nat.two_pow_pos k
  have e1 : m = 2 ^ k * (2 * q + 1) + 0 := by omega
  have e2 : m - 1 = 2 ^ k * (2 * q) + (2 ^ k - 1) := by rw [e, Nat.mul_add]; omega
  have t1 : m.testBit j = if j < k then Nat.testBit 0 j else (2 * q + 1).testBit (j - k) := by rw [e1, Nat.testBit_two_pow_mul_add _ hp]
  have t2 : (m - 1).testBit j = if j < k then (2 ^ k - 1).testBit j else (2 * q).testBit (j - k) := by rw [e2, Nat.testBit_two_pow_mul_add _ (by omega)]
  rw [Nat.testBit_and, t1, t2]
  by_cases hj : j < k
  · rw [if_pos hj]; simp
  · rw [if_neg hj, if_neg hj]
    by_cases hjk : j = k
    · subst hjk
      simp
    · rw [decide_eq_true hjk, Bool.and_true]
      obtain ⟨t, ht⟩ : ∃ t, j - k = t + 1 := ⟨j - k - 1, by omega⟩
      rw [ht, Nat.testBit_succ, Nat.testBit_succ, show (2 * q + 1) / 2 = q by omega, show (2 * q) / 2 = q by omega, Bool.and_self]
theorem ctz_bit {m : Nat} (h0 : m ≠ 0) (h : m < 18446744073709551616) : m.testBit (ctz m) = true := by
  obtain ⟨q, e, hk⟩ := ctz_spec h0 h
  generalize ctz m = k at e hk ⊢
  have hp : 0 < 2 ^ k := Nat.two_pow_pos k
  have e1 : m = 2 ^ k * (2 * q + 1) + 0 := by omega
  rw [e1, Nat.testBit_two_pow_mul_add _ hp, if_neg (by omega), Nat.sub_self]
  simp
theorem low_lt {m : Nat} (h : m ≠ 0) : m &&& (m - 1) < m := by
  have := Nat.and_le_right (n := m) (m := m - 1)
  omega
def secM : Nat → Nat → Nat
  | 0, m => m
  | i + 1, m => secM i (m &&& (m - 1))
theorem secM_succ : ∀ (i m : Nat), secM (i + 1) m = secM i m &&& (secM i m - 1)
  | 0, m => rfl
  | i + 1, m => by rw [secM, secM_succ i]; rfl
theorem secM_le : ∀ (i m : Nat), secM i m ≤ m
  | 0, m => Nat.le_refl m
  | i + 1, m => by
    rw [secM_succ]
    exact Nat.le_trans Nat.and_le_left (secM_le i m)
/-- The sectors whose bits are 1, rising. -/
def secL (m : Nat) : List Nat := if h : m = 0 then [] else ctz m :: secL (m &&& (m - 1))
termination_by m
decreasing_by exact low_lt h
theorem secL_zero : secL 0 = [] := by rw [secL]; rfl
theorem secL_cons {m : Nat} (h : m ≠ 0) : secL m = ctz m :: secL (m &&& (m - 1)) := by rw [secL, dif_neg h]
theorem sec_get (m : Nat) : ∀ i, i < (secL m).length → (secL m)[i]? = some (ctz (secM i m)) ∧ secM i m ≠ 0 := by
  induction m using Nat.strongRecOn with
  | _ m ih =>
    intro i hi
    by_cases h : m = 0
    · subst h
      rw [secL_zero] at hi
      simp at hi
    · rw [secL_cons h] at hi ⊢
      cases i with
      | zero => exact ⟨rfl, h⟩
      | succ i => exact ih _ (low_lt h) i (by simpa using hi)
theorem sec_end (m : Nat) : secM (secL m).length m = 0 := by
  induction m using Nat.strongRecOn with
  | _ m ih =>
    by_cases h : m = 0
    · subst h
      rw [secL_zero]
      rfl
    · rw [secL_cons h]
      exact ih _ (low_lt h)
theorem tz_idx (m a : Nat) (h0 : m ≠ 0) (h : m < 18446744073709551616) (hlow : m &&& (18446744073709551616 - m) = a) :
    ishr .u64 (IntKind.wrap .u64 (iand .u64 (m : Int) (IntKind.wrap .u64 (0 - (m : Int))) * 285870213051353865)) 58 = ((a * 285870213051353865 % 18446744073709551616 / 288230376151711744 : Nat) : Int) := by
  have hneg : IntKind.wrap .u64 (0 - (m : Int)) = ((18446744073709551616 - m : Nat) : Int) := by rw [wrap_u64]; omega
  rw [hneg, iand_nat (by rfl) (show m < 2 ^ 64 by omega) (show 18446744073709551616 - m < 2 ^ 64 by omega), hlow, wrap_u64]
  have e : (a : Int) * 285870213051353865 % 18446744073709551616 = ((a * 285870213051353865 % 18446744073709551616 : Nat) : Int) := by omega
  rw [e]
  generalize a * 285870213051353865 % 18446744073709551616 = q
  exact ishr_nat .u64 q 58 (by decide)
theorem tz_calls (w : World) (m : Nat) (h0 : m ≠ 0) (h : m < 18446744073709551616) (hT : DeB w) :
    Calls Tryd.prog 59 #[.int .u64 (m : Int)] w (Ret fun v w' => v = .int .i64 (ctz m : Nat) ∧ w' = w) := by
  apply calls59
  unfold S59
  obtain ⟨hlow, hk⟩ := Lib.lowest_bit 64 m h0 (by omega)
  obtain ⟨hi, htab⟩ := Lib.deBruijn64_at _ hk
  rw [tz_idx m _ h0 h hlow]
  generalize 2 ^ Lib.ctz 64 m * 285870213051353865 % 18446744073709551616 / 288230376151711744 = idx at hi htab ⊢
  refine splitW_f (beq_eq_false_iff_ne.2 (by omega)) ?_
  refine guard_i ⟨by omega, by omega⟩ ?_
  rw [Int.toNat_natCast, Nat.mul_one]
  have hc : ctz m < 64 := hk
  refine ld_i (l := .int .u8) (x := ((ctz m : Nat) : Int)) ?_ ?_
  · rw [add_mk, Nat.zero_add, hT _ hi, htab]
    rfl
  · exact ⟨by rw [wrap_i64 (by omega) (by omega)], rfl⟩
def RSec (r m : Nat) (i : Nat) : WP := fun w => Blk w r [.int .u64 (secM i m : Nat)] 42 ∧ DeB w
def TSec (r m : Nat) (i : Nat) (w : World) : World := w.setCell ⟨r, 0, none⟩ (.int .u64 (secM (i + 1) m : Nat))
def secV (m : Nat) : List (List Value) := (secL m).map fun k => [.int .i64 (k : Nat)]
theorem sectors_calls {w : World} {m : Nat} (hm : m < 18446744073709551616) (hT : DeB w) :
    Calls Tryd.prog 45 #[.int .u64 (m : Int)] w (Ret fun v w' => ∃ r, IterT Tryd.prog v (secV m) (RSec r m) (TSec r m) ∧ RSec r m 0 w' ∧ r = w.heap.size ∧ w'.heap.size = r + 1 ∧ Ext w w') := by
  apply calls45
  unfold S45
  refine new_i fun r w1 hb1 he1 hr1 hz1 => ?_
  refine ⟨r, ⟨_, _, rfl, by kernel_rfl, fun l J E w' hJ hR hd hY => ?_⟩, ⟨hb1, hT.ext he1⟩, hr1.symm, hz1, he1⟩
  apply calls58
  unfold S58
  have hlen : (secV m).length = (secL m).length := by simp [secV]
  rw [hlen]
  refine ⟨fun _ w' => ∃ i, i ≤ (secL m).length ∧ J i w', fun _ w' => match w'.cell? ⟨r, 0, none⟩ with | some (.int _ n) => n.toNat | _ => 0, ⟨0, Nat.zero_le _, hJ⟩, ?_⟩
  rintro _ w2 ⟨i, hi, hJ⟩
  have hR2 := hR i w2 hJ
  have hle := secM_le i m
  refine ldW_blk (x := ((secM i m : Nat) : Int)) hR2.1 (by rfl) ?_
  by_cases hlt : i < (secL m).length
  · obtain ⟨hget, hne⟩ := sec_get m i hlt
    refine splitW_t (bne_iff_ne.2 (by omega)) ?_
    refine ldW_blk (x := ((secM i m : Nat) : Int)) hR2.1 (by rfl) ?_
    refine callW_of (tz_calls w2 (secM i m) hne (by omega) hR2.2) ?_
    rintro _ w3 ⟨rfl, hw⟩
    refine ⟨_, rfl, ?_⟩
    obtain rfl : w2 = w3 := hw.symm
    refine .inr ⟨l, rfl, ?_⟩
    have hy := hY i w2 (by omega) hJ
    have el : (secV m)[i]'(by omega) = [.int .i64 (ctz (secM i m) : Nat)] := by
      have : (secV m)[i]? = some [.int .i64 (ctz (secM i m) : Nat)] := by unfold secV; rw [List.getElem?_map, hget]; rfl
      exact (List.getElem?_eq_some_iff.1 this).2
    rw [el] at hy
    obtain ⟨fn, tmps, asg, bd, hy1, hy2⟩ := hy
    refine ⟨fn, tmps, asg, bd, hy1, RoundIn.mono hy2 ?_⟩
    rintro (v | x | _) w4 hv
    · rcases hv with ⟨rfl, hR4, hJ4⟩ | ⟨rfl, hE⟩
      · refine ⟨true, rfl, splitW_f (by rfl) ?_⟩
        refine ldW_blk (x := ((secM i m : Nat) : Int)) hR4.1 (by rfl) (ldW_blk (x := ((secM i m : Nat) : Int)) hR4.1 (by rfl) ?_)
        have e : iand .u64 ((secM i m : Nat) : Int) (IntKind.wrap .u64 (((secM i m : Nat) : Int) - 1)) = ((secM (i + 1) m : Nat) : Int) := by
          have e1 : IntKind.wrap .u64 (((secM i m : Nat) : Int) - 1) = ((secM i m - 1 : Nat) : Int) := by rw [wrap_u64]; omega
          rw [e1, iand_nat (by rfl) (by show _ < 2 ^ 64; omega) (by show _ < 2 ^ 64; omega), secM_succ]
        rw [e]
        refine stW_blk hR4.1 (by show 0 < 1; omega) ?_
        refine ⟨⟨i + 1, hlt, hJ4⟩, ?_⟩
        have h5 := (hR (i + 1) _ hJ4).1
        have c5 : (w4.setCell ⟨r, 0, none⟩ (.int .u64 (secM (i + 1) m : Nat))).cell? ⟨r, 0, none⟩ = some (.int .u64 (secM (i + 1) m : Nat)) := by
          have := h5.cell 0
          exact this
        have c2 : w2.cell? ⟨r, 0, none⟩ = some (.int .u64 (secM i m : Nat)) := hR2.1.cell 0
        dsimp only
        rw [c5, c2]
        simp only [Int.toNat_natCast]
        rw [secM_succ]
        exact low_lt hne
      · exact ⟨false, rfl, splitW_t (by rfl) (.inr hE)⟩
    · exact hv
    · exact hv
  · obtain rfl : i = (secL m).length := by omega
    have hz := sec_end m
    rw [hz]
    exact splitW_f (by rfl) (.inl hJ)
end Go.Proofs.YtpbjbhcejgnhiaaDoor.V
