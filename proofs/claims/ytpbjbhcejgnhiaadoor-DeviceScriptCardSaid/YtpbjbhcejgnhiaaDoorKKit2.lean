/- Contracts of the kit: Times, Str, Num, Row, Pair. -/
import Derived.Test.YtpbjbhcejgnhiaaDoorHX
import Derived.Test.YtpbjbhcejgnhiaaDoorStr
import Derived.Test.YtpbjbhcejgnhiaaDoorS
set_option linter.unusedVariables false
set_option linter.unusedSimpArgs false
namespace Go.Proofs.YtpbjbhcejgnhiaaDoor.V
open Go Go.Proofs Go.RowKit

def timesL (bs : List UInt8) (n : Nat) : List UInt8 := (List.replicate n bs).flatten
theorem timesL_length (bs : List UInt8) (n : Nat) : (timesL bs n).length = n * bs.length := by simp [timesL]
theorem timesL_double (bs : List UInt8) (n : Nat) : timesL (bs ++ bs) n = timesL bs (2 * n) := by
  induction n with
  | zero => rfl
  | succ n ih =>
    have e : timesL (bs ++ bs) (n + 1) = (bs ++ bs) ++ timesL (bs ++ bs) n := by simp [timesL, List.replicate_succ]
    rw [e, ih, show 2 * (n + 1) = 2 * n + 1 + 1 by omega]
    simp [timesL, List.replicate_succ]
theorem times_calls (w : World) (s : ByteArray) {n : Int} (hn1 : n < 9223372036854775808) (hb : (B s).length * n.toNat ≤ 4000000000000000000) (hs : (B s).length ≤ 4000000000000000000) : Calls Tryd.prog 46 #[.string s, .int .i64 n] w (Ret fun v w' => v = .string ⟨(timesL (B s) n.toNat).toArray⟩ ∧ w' = w) := by
  apply calls46
  unfold S46
  refine loopW_i (fun y w' => w' = w ∧ (y.2.1 ≤ 0 → y.2.1 = n ∨ y.2.1 = 0) ∧ y.2.1 ≤ max n 0 ∧ B y.2.2.1 ++ timesL (B y.1) y.2.1.toNat = timesL (B s) n.toNat ∧ (B y.1).length * y.2.1.toNat ≤ 4000000000000000000 ∧ (0 < y.2.1 → (B y.1).length ≤ 4000000000000000000)) (fun y => y.2.1.toNat) ⟨rfl, fun _ => .inl rfl, by dsimp only; omega, by simp [B], hb, fun _ => hs⟩ ?_
  rintro ⟨t, m, out, _⟩ w1 ⟨hw, h0, h1, h2, h3, h4⟩
  subst hw
  dsimp only at h0 h1 h2 h3 h4 ⊢
  have hlen : (timesL (B s) n.toNat).length ≤ 4000000000000000000 := by rw [timesL_length, Nat.mul_comm]; exact hb
  have hl2 := congrArg List.length h2
  rw [List.length_append] at hl2
  have htsz := B_size t
  have hosz := B_size out
  by_cases hm : 0 < m
  · have ht := h4 hm
    have hmw : m < 9223372036854775808 := by omega
    have e2 : IntKind.wrap .i64 (Int.tdiv m 2) = m / 2 := by
      rw [Int.tdiv_eq_ediv_of_nonneg (by omega), wrap_i64 (by omega) (by omega)]
    have hmax : IntKind.i64.max = 9223372036854775807 := by decide
    have hdt : ∀ k : Nat, m.toNat = 2 * k + 1 → B out ++ B t ++ timesL (B t ++ B t) k = timesL (B s) n.toNat := fun k hk => by
      rw [timesL_double, ← h2, hk, List.append_assoc]
      congr 1
    have hde : ∀ k : Nat, m.toNat = 2 * k → B out ++ timesL (B t ++ B t) k = timesL (B s) n.toNat := fun k hk => by rw [timesL_double, ← h2, hk]
    have hmul : (B t).length ≤ (B t).length * m.toNat := Nat.le_mul_of_pos_right _ (by omega)
    refine splitW_t (decide_eq_true (by omega)) ?_
    refine splitW_i (fun hodd => ?_) (fun hev => ?_)
    · have hodd := beq_iff_eq.1 hodd
      have hmod : m % 2 = 1 := by rw [Int.tmod_eq_emod_of_nonneg (by omega)] at hodd; exact hodd
      have hk : m.toNat = 2 * (m / 2).toNat + 1 := by omega
      have hpre : (B out).length + (B t).length ≤ 4000000000000000000 := by
        rw [timesL_length] at hl2
        have : 1 * (B t).length ≤ m.toNat * (B t).length := Nat.mul_le_mul_right _ (by omega)
        omega
      refine guard_i (by rw [hmax]; omega) (guard_i (by rw [hmax]; omega) ?_)
      refine ⟨⟨rfl, fun hh => .inr (by rw [e2] at hh ⊢; omega), ?_, ?_, ?_, fun hp => ?_⟩, ?_⟩
      · rw [e2]; omega
      · rw [e2, B_append, B_append]
        exact hdt _ hk
      · rw [e2, B_append, List.length_append]
        have : ((B t).length + (B t).length) * (m / 2).toNat = (B t).length * (2 * (m / 2).toNat) := by rw [← Nat.two_mul, Nat.mul_assoc, Nat.mul_left_comm]
        rw [this]
        exact Nat.le_trans (Nat.mul_le_mul_left _ (by omega)) h3
      · rw [e2] at hp
        rw [B_append, List.length_append]
        have : (B t).length * 2 ≤ (B t).length * m.toNat := Nat.mul_le_mul_left _ (by omega)
        omega
      · rw [e2]; omega
    · have hev := beq_eq_false_iff_ne.1 hev
      have hmod : m % 2 = 0 := by rw [Int.tmod_eq_emod_of_nonneg (by omega)] at hev; omega
      have hk : m.toNat = 2 * (m / 2).toNat := by omega
      refine guard_i (by rw [hmax]; omega) ?_
      refine ⟨⟨rfl, fun hh => .inr (by rw [e2] at hh ⊢; omega), ?_, ?_, ?_, fun hp => ?_⟩, ?_⟩
      · rw [e2]; omega
      · rw [e2, B_append]
        exact hde _ hk
      · rw [e2, B_append, List.length_append]
        have : ((B t).length + (B t).length) * (m / 2).toNat = (B t).length * (2 * (m / 2).toNat) := by rw [← Nat.two_mul, Nat.mul_assoc, Nat.mul_left_comm]
        rw [this]
        exact Nat.le_trans (Nat.mul_le_mul_left _ (by omega)) h3
      · rw [B_append, List.length_append]
        have : (B t).length * 2 ≤ (B t).length * m.toNat := Nat.mul_le_mul_left _ (by omega)
        omega
      · rw [e2]; omega
  · refine splitW_f (decide_eq_false (by omega)) ⟨?_, rfl⟩
    rw [show m.toNat = 0 by omega] at h2
    congr 1
    apply B_inj
    show B out = timesL (B s) n.toNat
    rw [← h2]
    simp [timesL]
end Go.Proofs.YtpbjbhcejgnhiaaDoor.V
