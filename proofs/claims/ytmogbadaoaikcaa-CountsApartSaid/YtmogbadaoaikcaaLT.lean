/- The plain part of CountsTake. -/
import Derived.Test.YtmogbadaoaikcaaL
set_option linter.unusedVariables false
set_option linter.unusedSimpArgs false
namespace Go.Proofs.Ytmogbadaoaikcaa.V
open Go Go.Proofs

def fl (n : Nat) (f : Nat → Nat) : List Nat := (List.range n).map f
theorem length_fl (n : Nat) (f : Nat → Nat) : (fl n f).length = n := by simp [fl]
theorem getD_fl {n i : Nat} {f : Nat → Nat} (h : i < n) : (fl n f).getD i 0 = f i := by simp [fl, h]
theorem list_fl {n : Nat} {f : Nat → Nat} {l : List Nat} (hl : l.length = n) (h : ∀ i, i < n → l.getD i 0 = f i) : l = fl n f := by
  apply List.ext_getElem (by rw [hl, length_fl])
  intro i h1 h2
  have := h i (by omega)
  rw [List.getD_eq_getElem?_getD, List.getElem?_eq_getElem h1] at this
  simp only [Option.getD_some] at this
  rw [this]
  simp [fl]
theorem getD_set_nat (l : List Nat) (k i x : Nat) : (l.set k x).getD i 0 = if k = i ∧ k < l.length then x else l.getD i 0 := by
  simp only [List.getD_eq_getElem?_getD, List.getElem?_set]
  by_cases h : k = i
  · subst h
    by_cases h2 : k < l.length
    · simp [h2]
    · simp [h2, List.getElem?_eq_none (Nat.not_lt.1 h2)]
  · simp [h]
theorem fl_set {n k x : Nat} {f g : Nat → Nat} (hk : k < n) (h1 : g k = x) (h2 : ∀ i, i < n → i ≠ k → g i = f i) : (fl n f).set k x = fl n g := by
  apply list_fl (by rw [List.length_set, length_fl])
  intro i hi
  rw [getD_set_nat, length_fl]
  by_cases hik : k = i
  · subst hik; rw [if_pos ⟨rfl, hk⟩, h1]
  · rw [if_neg (fun h => hik h.1), getD_fl hi, h2 i hi (fun e => hik e.symm)]
/-- The first loop: all taken below i. -/
def f1 (i : Nat) (j : Nat) : Nat := if j < i then 1 else 0
theorem newL_fl {n : Nat} (h : 8 ≤ n) : newL n = fl n (f1 2) := by
  apply list_fl (by simp [newL]; omega)
  intro i hi
  unfold f1
  match i with
  | 0 => rfl
  | 1 => rfl
  | i + 2 =>
    rw [if_neg (by omega)]
    simp [newL, List.getElem?_replicate]
    split <;> rfl
theorem takeI_eq {l hl : List Nat} {x : Nat} (hx : x < l.length) (h1 : freeAt l hl x = true) (h2 : ∀ i, i < x → freeAt l hl i = false) : takeI l hl = x := by
  rcases Nat.lt_trichotomy (takeI l hl) x with h | h | h
  · have := takeI_is (l := l) (hl := hl) (by omega)
    rw [h2 _ h] at this; cases this
  · exact h
  · rw [takeI_not h] at h1; cases h1
theorem takeI_none {l hl : List Nat} (h : ∀ i, i < l.length → freeAt l hl i = false) : takeI l hl = l.length := by
  have := takeI_le l hl
  rcases Nat.lt_or_ge (takeI l hl) l.length with h1 | h1
  · have := takeI_is (l := l) (hl := hl) h1
    rw [h _ h1] at this; cases this
  · omega
theorem take_f1 {n i : Nat} (h : i < n) : takeI (fl n (f1 i)) [] = i := by
  refine takeI_eq (by rw [length_fl]; exact h) ?_ (fun j hj => ?_)
  · unfold freeAt
    rw [getD_fl h]
    simp [f1]
  · unfold freeAt
    rw [getD_fl (by omega)]
    simp [f1, hj]
theorem takeL_f1 {n i : Nat} (h : i < n) : takeL (fl n (f1 i)) [] = fl n (f1 (i + 1)) := by
  unfold takeL
  rw [take_f1 h, length_fl, if_pos h]
  refine fl_set h (by simp [f1]) (fun j hj hne => ?_)
  unfold f1
  by_cases hji : j < i
  · rw [if_pos hji, if_pos (by omega)]
  · rw [if_neg hji, if_neg (by omega)]
/-- The second loop: below i as the bits say. -/
def f2 (bits i : Nat) (j : Nat) : Nat := if j < 2 ∨ i ≤ j then 1 else if bits.testBit j then 1 else 0
theorem f1_f2 (n bits : Nat) : fl n (f1 n) = fl n (f2 bits 2) := by
  apply list_fl (length_fl _ _)
  intro i hi
  rw [getD_fl hi]
  unfold f1 f2
  rw [if_pos hi]
  split
  · rfl
  · omega
theorem sub_f2 {n bits i : Nat} (h2 : 2 ≤ i) (h : i < n) (hb : bits.testBit i = false) : subL (fl n (f2 bits i)) i = fl n (f2 bits (i + 1)) := by
  have hg : (fl n (f2 bits i)).getD i 0 = 1 := by rw [getD_fl h]; unfold f2; rw [if_pos (.inr (Nat.le_refl _))]
  have ha : atE (fl n (f2 bits i)) i = 0 := by
    unfold atE
    rw [length_fl, if_neg (by omega), hg, if_neg (by decide)]
  unfold subL
  rw [if_pos ha, hg]
  refine fl_set h ?_ (fun j hj hne => ?_)
  · unfold f2
    rw [if_neg (by omega), hb]
    rfl
  · unfold f2
    by_cases h1 : j < 2 ∨ i + 1 ≤ j
    · rw [if_pos h1, if_pos (by omega)]
    · rw [if_neg h1, if_neg (show ¬ (j < 2 ∨ i ≤ j) by omega)]
theorem keep_f2 {n bits i : Nat} (h2 : 2 ≤ i) (hb : bits.testBit i = true) : fl n (f2 bits i) = fl n (f2 bits (i + 1)) := by
  apply list_fl (length_fl _ _)
  intro j hj
  rw [getD_fl hj]
  unfold f2
  by_cases h1 : j < 2 ∨ i + 1 ≤ j
  · rw [if_pos h1, if_pos (by omega)]
  · rw [if_neg h1]
    by_cases hji : j = i
    · subst hji
      rw [if_pos (.inr (Nat.le_refl _)), hb]
      rfl
    · rw [if_neg (show ¬ (j < 2 ∨ i ≤ j) by omega)]
/-- Free places from a on. -/
def cntF (p : Nat → Bool) (n a : Nat) : Nat := ((List.range n).filter fun i => decide (a ≤ i) && p i).length
theorem cntF_step {p : Nat → Bool} {n a : Nat} (h : a < n) : cntF p n a = cntF p n (a + 1) + (if p a then 1 else 0) := by
  unfold cntF
  obtain ⟨m, rfl⟩ : ∃ m, n = a + 1 + m := ⟨n - (a + 1), by omega⟩
  rw [List.range_add, List.range_succ]
  simp only [List.filter_append, List.length_append]
  have e1 : ((List.range a).filter fun i => decide (a ≤ i) && p i) = [] := by
    rw [List.filter_eq_nil_iff]
    intro i hi
    rw [List.mem_range] at hi
    simp; omega
  have e2 : ((List.range a).filter fun i => decide (a + 1 ≤ i) && p i) = [] := by
    rw [List.filter_eq_nil_iff]
    intro i hi
    rw [List.mem_range] at hi
    simp; omega
  have e3 : ((List.map (fun x => a + 1 + x) (List.range m)).filter fun i => decide (a ≤ i) && p i) = ((List.map (fun x => a + 1 + x) (List.range m)).filter fun i => decide (a + 1 ≤ i) && p i) := by
    apply List.filter_congr
    intro i hi
    obtain ⟨j, _, rfl⟩ := List.mem_map.1 hi
    rw [decide_eq_true (by omega), decide_eq_true (by omega)]
  rw [e1, e2, e3]
  cases hp : p a <;> simp [hp] <;> omega
theorem cntF_up {p : Nat → Bool} {i : Nat} (h : 2 ≤ i) : cntF p (i + 1) 2 = cntF p i 2 + (if p i then 1 else 0) := by
  unfold cntF
  rw [List.range_succ, List.filter_append, List.length_append]
  cases hp : p i <;> simp [hp, h]
theorem cntF_le (p : Nat → Bool) (n a : Nat) : cntF p n a ≤ n := by
  unfold cntF
  have := List.length_filter_le (fun i => decide (a ≤ i) && p i) (List.range n)
  simpa using this
theorem cntF_zero {p : Nat → Bool} {n a : Nat} (h : cntF p n a = 0) : ∀ i, a ≤ i → i < n → p i = false := by
  unfold cntF at h
  have h1 := List.eq_nil_of_length_eq_zero h
  rw [List.filter_eq_nil_iff] at h1
  intro i h2 h3
  have := h1 i (List.mem_range.2 h3)
  simp only [Bool.and_eq_true, decide_eq_true_eq, not_and, Bool.not_eq_true] at this
  exact this h2
theorem cntF_pos {p : Nat → Bool} {n a : Nat} (h : 0 < cntF p n a) : ∃ x, a ≤ x ∧ x < n ∧ p x = true ∧ (∀ i, a ≤ i → i < x → p i = false) ∧ cntF p n (x + 1) + 1 = cntF p n a := by
  have go : ∀ (d a : Nat), n - a = d → 0 < cntF p n a → ∃ x, a ≤ x ∧ x < n ∧ p x = true ∧ (∀ i, a ≤ i → i < x → p i = false) ∧ cntF p n (x + 1) + 1 = cntF p n a := by
    intro d
    induction d with
    | zero =>
      intro a ha hpos
      have : cntF p n a = 0 := by
        unfold cntF
        rw [List.length_eq_zero_iff, List.filter_eq_nil_iff]
        intro i hi
        rw [List.mem_range] at hi
        simp; omega
      omega
    | succ d ih =>
      intro a ha hpos
      have hs := cntF_step (p := p) (n := n) (a := a) (by omega)
      cases hp : p a with
      | true =>
        rw [hp, if_pos rfl] at hs
        exact ⟨a, Nat.le_refl _, by omega, hp, fun i h1 h2 => by omega, by omega⟩
      | false =>
        rw [hp, if_neg (by simp)] at hs
        obtain ⟨x, h1, h2, h3, h4, h5⟩ := ih (a + 1) (by omega) (by omega)
        refine ⟨x, by omega, h2, h3, fun i hi1 hi2 => ?_, by omega⟩
        by_cases hia : i = a
        · rw [hia]; exact hp
        · exact h4 i (by omega) hi2
  exact go _ a rfl h
/-- The third loop: free places up to last are taken. -/
def f3 (f : Nat → Nat) (q : Nat → Bool) (last i : Nat) : Nat := if decide (i ≤ last) && q i then 1 else f i
theorem free_f3 {n last i : Nat} {f : Nat → Nat} {hl : List Nat} {q : Nat → Bool} (hq : ∀ i, i < n → q i = freeAt (fl n f) hl i) (hi : i < n) : freeAt (fl n (f3 f q last)) hl i = (decide (last < i) && q i) := by
  have h1 := hq i hi
  unfold freeAt at h1 ⊢
  rw [getD_fl hi] at h1 ⊢
  unfold f3
  by_cases hle : i ≤ last
  · rw [decide_eq_true hle, decide_eq_false (show ¬ last < i by omega), Bool.true_and, Bool.false_and]
    cases hqi : q i with
    | true => rfl
    | false => rw [if_neg (by simp), ← h1, hqi]
  · rw [decide_eq_false hle, decide_eq_true (show last < i by omega), Bool.false_and, Bool.true_and, if_neg (by simp)]
    exact h1.symm
theorem take_f3 {n last x : Nat} {f : Nat → Nat} {hl : List Nat} {q : Nat → Bool} (hq : ∀ i, i < n → q i = freeAt (fl n f) hl i) (hx : x < n) (hlx : last < x) (hqx : q x = true) (hno : ∀ i, last + 1 ≤ i → i < x → q i = false) :
    takeI (fl n (f3 f q last)) hl = x ∧ takeL (fl n (f3 f q last)) hl = fl n (f3 f q x) := by
  have h1 : takeI (fl n (f3 f q last)) hl = x := by
    refine takeI_eq (by rw [length_fl]; exact hx) ?_ (fun i hi => ?_)
    · rw [free_f3 hq hx, hqx, decide_eq_true hlx]; rfl
    · rw [free_f3 hq (by omega)]
      by_cases hli : last < i
      · rw [hno i (by omega) hi, Bool.and_false]
      · rw [decide_eq_false hli, Bool.false_and]
  refine ⟨h1, ?_⟩
  unfold takeL
  rw [h1, length_fl, if_pos hx]
  refine fl_set hx (by unfold f3; rw [hqx, decide_eq_true (Nat.le_refl _)]; rfl) (fun i hi hne => ?_)
  unfold f3
  by_cases hli : i ≤ last
  · rw [decide_eq_true hli, decide_eq_true (show i ≤ x by omega)]
  · rw [decide_eq_false hli]
    by_cases hix : i ≤ x
    · rw [hno i (by omega) (by omega)]; simp
    · rw [decide_eq_false hix]
theorem none_f3 {n last : Nat} {f : Nat → Nat} {hl : List Nat} {q : Nat → Bool} (hq : ∀ i, i < n → q i = freeAt (fl n f) hl i) (hno : ∀ i, last + 1 ≤ i → i < n → q i = false) : takeI (fl n (f3 f q last)) hl = n := by
  have := takeI_none (l := fl n (f3 f q last)) (hl := hl) (fun i hi => by
    rw [length_fl] at hi
    rw [free_f3 hq hi]
    by_cases hli : last < i
    · rw [hno i (by omega) hi, Bool.and_false]
    · rw [decide_eq_false hli, Bool.false_and])
  rw [this, length_fl]
theorem cntF_congr {p q : Nat → Bool} {n a : Nat} (h : ∀ i, a ≤ i → i < n → p i = q i) : cntF p n a = cntF q n a := by
  unfold cntF
  congr 1
  apply List.filter_congr
  intro i hi
  rw [List.mem_range] at hi
  by_cases ha : a ≤ i
  · rw [h i ha hi]
  · rw [decide_eq_false ha, Bool.false_and, Bool.false_and]
end Go.Proofs.Ytmogbadaoaikcaa.V
