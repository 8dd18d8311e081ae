/- A key cut anywhere but between cells is none (plain). -/
import Derived.Test.YtlpniinmomhkcaaDoorVal
set_option linter.unusedVariables false
set_option linter.unusedSimpArgs false
namespace Go.Proofs.YtlpniinmomhkcaaDoor.V
open Go Go.Proofs

theorem uneC_b {b : UInt8} (h : b ≠ 0) (r : List UInt8) : unesc (b :: r) = (unesc r).map fun x => (b :: x.1, x.2) := by
  cases r with
  | nil => rfl
  | cons c r => rw [unesc, if_pos h]
theorem uneC_0f (r : List UInt8) : unesc (0 :: 255 :: r) = (unesc r).map fun x => (0 :: x.1, x.2) := by rw [unesc, if_neg (by simp), if_neg (by decide), if_pos rfl]
theorem unesc_cut : ∀ (s p t : List UInt8), esc s ++ [0, 0] = p ++ t → t ≠ [] → unesc p = none
  | s, [], t, _, _ => rfl
  | [], [b], t, _, _ => rfl
  | [], b :: c :: p, t, h, ht => by
    have h' : [(0 : UInt8), 0] = b :: c :: (p ++ t) := h
    injection h' with _ h'
    injection h' with _ h'
    exact absurd (List.append_eq_nil_iff.1 h'.symm).2 ht
  | x :: r, b :: p, t, h, ht => by
    by_cases hx : x = 0
    · subst hx
      rw [esc_0] at h
      injection h with e h
      subst e
      cases p with
      | nil => rfl
      | cons c p =>
        injection h with e h
        subst e
        rw [uneC_0f, unesc_cut r p t h ht]
        rfl
    · rw [esc_b hx] at h
      injection h with e h
      subst e
      rw [uneC_b hx, unesc_cut r p t h ht]
      rfl
theorem unkeyC_cut {c : Cell} (hc : cellOK c = true) {p t : List UInt8} (h : keyC c = p ++ t) (ht : t ≠ []) : unkeyC p = none := by
  unfold keyC at h
  cases p with
  | nil => rfl
  | cons b p =>
    injection h with e h
    have h : _ = p ++ t := h
    rcases cellOK_kind hc with k | k | k | k
    · rw [k] at h
      rw [if_neg (by omega), if_neg (by omega), if_neg (by omega)] at h
      exact absurd (List.append_eq_nil_iff.1 h.symm).2 ht
    · rw [k] at h e
      rw [if_pos rfl] at h
      have e : b = 1 := e.symm
      subst e
      have hl := congrArg List.length h
      rw [be_length, List.length_append] at hl
      have := List.length_pos_iff.2 ht
      rw [unkeyC_1, if_pos (by omega)]
    · rw [k] at h e
      rw [if_neg (by omega), if_pos rfl] at h
      have e : b = 2 := e.symm
      subst e
      have hl := congrArg List.length h
      rw [List.length_append] at hl
      have := List.length_pos_iff.2 ht
      obtain rfl : p = [] := List.eq_nil_of_length_eq_zero (by simp at hl; omega)
      exact unkeyC_2n
    · rw [k] at h e
      rw [if_neg (by omega), if_neg (by omega), if_pos rfl] at h
      have e : b = 3 := e.symm
      subst e
      rw [unkeyC_3, unesc_cut _ _ _ h ht]
      rfl
theorem keyC_pos (c : Cell) : 0 < (keyC c).length := by unfold keyC; simp
/-- Where a row's key is cut: between cells, or it is none. -/
theorem unkey_cut : ∀ {row : List Cell} (k : Nat), (∀ c ∈ row, cellOK c = true ∧ cellQ c) → k ≤ (keyR row).length →
    (∃ n, n ≤ row.length ∧ k = (keyR (row.take n)).length ∧ unkeyR ((keyR row).take k) = some (row.take n)) ∨ ((∀ n, n ≤ row.length → k ≠ (keyR (row.take n)).length) ∧ unkeyR ((keyR row).take k) = none)
  | [], k, _, h => by
    have : k = 0 := by simpa [keyR] using h
    subst this
    exact .inl ⟨0, by simp, rfl, unkeyR_nil⟩
  | c :: r, k, hr, h => by
    have hk : keyR (c :: r) = keyC c ++ keyR r := rfl
    obtain ⟨hc, qc⟩ := hr c (by simp)
    have hr' : ∀ c ∈ r, cellOK c = true ∧ cellQ c := fun d hd => hr d (by simp [hd])
    rw [hk] at h ⊢
    have hp := keyC_pos c
    by_cases h0 : k = 0
    · subst h0
      exact .inl ⟨0, by simp, rfl, by rw [List.take_zero]; exact unkeyR_nil⟩
    by_cases hlt : k < (keyC c).length
    · right
      refine ⟨fun n hn e => ?_, ?_⟩
      · cases n with
        | zero => simp [keyR] at e; exact h0 e
        | succ n =>
          rw [List.take_succ_cons] at e
          have : keyR (c :: r.take n) = keyC c ++ keyR (r.take n) := rfl
          rw [this, List.length_append] at e
          omega
      · rw [List.take_append_of_le_length (by omega)]
        have hne : (keyC c).take k ≠ [] := by
          intro e
          have h3 := congrArg List.length e
          rw [List.length_take, List.length_nil] at h3
          omega
        exact unkeyR_none hne (unkeyC_cut hc (t := (keyC c).drop k) (List.take_append_drop _ _).symm (by
          intro e
          have h3 := congrArg List.length e
          rw [List.length_drop, List.length_nil] at h3
          omega))
    · rw [List.length_append] at h
      have htake : (keyC c ++ keyR r).take k = keyC c ++ (keyR r).take (k - (keyC c).length) := by
        rw [List.take_append, List.take_of_length_le (by omega)]
      have hstep := unkeyR_some (keyC_ne c ((keyR r).take (k - (keyC c).length))) (unkey_key hc qc _)
      rw [if_pos hc] at hstep
      rw [htake, hstep]
      rcases unkey_cut (row := r) (k - (keyC c).length) hr' (by omega) with ⟨n, hn, e, hu⟩ | ⟨hno, hu⟩
      · refine .inl ⟨n + 1, by simp; omega, ?_, ?_⟩
        · rw [List.take_succ_cons]
          have : keyR (c :: r.take n) = keyC c ++ keyR (r.take n) := rfl
          rw [this, List.length_append]
          omega
        · rw [hu]
          rfl
      · refine .inr ⟨fun n hn e => ?_, by rw [hu]; rfl⟩
        cases n with
        | zero => simp [keyR] at e; exact h0 e
        | succ n =>
          rw [List.take_succ_cons] at e
          have : keyR (c :: r.take n) = keyC c ++ keyR (r.take n) := rfl
          rw [this, List.length_append] at e
          exact hno n (by simp at hn; omega) (by omega)
end Go.Proofs.YtlpniinmomhkcaaDoor.V
