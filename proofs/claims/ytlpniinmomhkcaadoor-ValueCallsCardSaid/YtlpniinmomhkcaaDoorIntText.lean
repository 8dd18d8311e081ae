/- A whole number's text is read as the number (plain). -/
import Derived.Lib.ParseIntB
import Derived.Lib.ItoaNum
import Derived.Lib.Bytealg
set_option linter.unusedVariables false
namespace Go.Proofs.YtlpniinmomhkcaaDoor.V
open Go Go.Lib

theorem parseM_dec (M : Nat) (hM : M < 18446744073709551616) (u : Nat) : ∀ r : List UInt8, u ≤ M → parseUintM M 0 (decDigits u ++ r) = parseUintM M u r := by
  induction u using Nat.strongRecOn with
  | ind u ih =>
    intro r hu
    rw [decDigits]
    by_cases h : u < 10
    · have e : (UInt8.ofNat (48 + u)).toNat = 48 + u := by rw [UInt8.toNat_ofNat']; omega
      rw [dif_pos h, List.singleton_append, parseUintM, e, if_pos (by omega), if_neg (by omega), if_neg (by omega)]
      congr 1
      omega
    · have e : (UInt8.ofNat (48 + u % 10)).toNat = 48 + u % 10 := by rw [UInt8.toNat_ofNat']; omega
      rw [dif_neg h, List.append_assoc, ih (u / 10) (by omega) _ (by omega), List.singleton_append, parseUintM, e, if_pos (by omega), if_neg (by omega), if_neg (by omega)]
      congr 1
      omega
theorem dec_head (u : Nat) : ∃ c r, decDigits u = c :: r ∧ 48 ≤ c.toNat ∧ c.toNat ≤ 57 := by
  induction u using Nat.strongRecOn with
  | ind u ih =>
    rw [decDigits]
    by_cases h : u < 10
    · rw [dif_pos h]
      exact ⟨_, [], rfl, by rw [UInt8.toNat_ofNat']; omega, by rw [UInt8.toNat_ofNat']; omega⟩
    · rw [dif_neg h]
      obtain ⟨c, r, e, h1, h2⟩ := ih (u / 10) (by omega)
      exact ⟨c, r ++ _, by rw [e]; rfl, h1, h2⟩
theorem parseU_dec {u : Nat} (hu : u < 18446744073709551616) : parseUintB 64 (decDigits u) = .ok u := by
  obtain ⟨c, r, e, _⟩ := dec_head u
  unfold parseUintB
  rw [if_neg (by rw [e]; simp)]
  have := parseM_dec (2 ^ 64 - 1) (by omega) u [] (by omega)
  rw [List.append_nil] at this
  rw [this, parseUintM]
theorem parse_itoa {z : Int} (h0 : -9223372036854775808 ≤ z) (h1 : z < 9223372036854775808) : parseIntB 64 (itoa z) = .ok z := by
  unfold itoa
  by_cases hz : z < 0
  · rw [if_pos hz]
    unfold parseIntB
    dsimp only
    have e45 : (45 : UInt8).toNat = 45 := rfl
    rw [e45, if_pos (Or.inr rfl), parseU_dec (by omega)]
    dsimp only
    rw [if_neg (by intro hh; exact hh.1 rfl), if_neg (by omega), if_pos rfl]
    congr 1
    omega
  · rw [if_neg hz]
    obtain ⟨c, r, e, hc1, hc2⟩ := dec_head z.toNat
    have hp := parseU_dec (u := z.toNat) (by omega)
    rw [e] at hp ⊢
    unfold parseIntB
    dsimp only
    rw [if_neg (by omega), hp]
    dsimp only
    rw [if_neg (by omega), if_neg (by omega), if_neg (by omega)]
    congr 1
    omega
/-- What strconv.ParseInt tells beside its error. -/
def numF (l : List UInt8) : Int := match parseIntB 64 l with
  | .ok v => v
  | .range => intSat 64 l
  | _ => 0
theorem numF_itoa {z : Int} (h0 : -9223372036854775808 ≤ z) (h1 : z < 9223372036854775808) : numF (itoa z) = z := by
  unfold numF
  rw [parse_itoa h0 h1]
theorem parse_bound {l : List UInt8} {v : Int} (h : parseIntB 64 l = .ok v) : -9223372036854775808 ≤ v ∧ v < 9223372036854775808 := by
  unfold parseIntB at h
  cases l with
  | nil => cases h
  | cons c r =>
    dsimp only at h
    cases hu : parseUintB 64 (if c.toNat = 43 ∨ c.toNat = 45 then r else c :: r) with
    | ok u =>
      rw [hu] at h
      dsimp only at h
      split at h
      · cases h
      · split at h
        · cases h
        · injection h with h
          split at h <;> omega
    | _ => rw [hu] at h; cases h
theorem numF_bound (l : List UInt8) : -9223372036854775808 ≤ numF l ∧ numF l < 9223372036854775808 := by
  unfold numF
  cases h : parseIntB 64 l with
  | ok v => exact parse_bound h
  | range =>
    dsimp only
    unfold intSat
    split <;> omega
  | _ => dsimp only; omega
/-- What the text of a whole number begins with. -/
theorem itoa_head (z : Int) : ∃ c r, itoa z = c :: r ∧ (c.toNat = 45 ∨ (48 ≤ c.toNat ∧ c.toNat ≤ 57)) := by
  unfold itoa
  by_cases hz : z < 0
  · rw [if_pos hz]; exact ⟨45, _, rfl, .inl rfl⟩
  · rw [if_neg hz]
    obtain ⟨c, r, e, h1, h2⟩ := dec_head z.toNat
    exact ⟨c, r, e, .inr ⟨h1, h2⟩⟩
end Go.Proofs.YtlpniinmomhkcaaDoor.V
