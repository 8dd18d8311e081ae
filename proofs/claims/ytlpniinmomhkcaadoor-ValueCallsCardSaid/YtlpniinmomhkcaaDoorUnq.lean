/- What is told is read again (plain). -/
import Derived.Test.YtlpniinmomhkcaaDoorKCur
import Derived.Test.YtlpniinmomhkcaaDoorIntText
set_option linter.unusedVariables false
set_option linter.unusedSimpArgs false
namespace Go.Proofs.YtlpniinmomhkcaaDoor.V
open Go Go.Proofs

def hxi (b : UInt8) : Int := Lib.indexByte hexL b
/-- A text with its quotes aside, its bytes told again. -/
def unq : List UInt8 → List UInt8
  | [] => []
  | c :: r => if 3 ≤ r.length ∧ c = 92 ∧ 0 ≤ hxi (r.getD 1 0) ∧ 0 ≤ hxi (r.getD 2 0) then UInt8.ofNat (hxi (r.getD 1 0) * 16 + hxi (r.getD 2 0)).toNat :: unq (r.drop 3) else c :: unq r
termination_by s => s.length
decreasing_by all_goals (simp; try omega)
theorem unq_nil : unq [] = [] := by rw [unq]
theorem unq_hex {c : UInt8} {r : List UInt8} (h : 3 ≤ r.length ∧ c = 92 ∧ 0 ≤ hxi (r.getD 1 0) ∧ 0 ≤ hxi (r.getD 2 0)) : unq (c :: r) = UInt8.ofNat (hxi (r.getD 1 0) * 16 + hxi (r.getD 2 0)).toNat :: unq (r.drop 3) := by
  rw [unq, if_pos h]
theorem unq_one {c : UInt8} {r : List UInt8} (h : ¬ (3 ≤ r.length ∧ c = 92 ∧ 0 ≤ hxi (r.getD 1 0) ∧ 0 ≤ hxi (r.getD 2 0))) : unq (c :: r) = c :: unq r := by
  rw [unq, if_neg h]
theorem unq_len : ∀ (n : Nat) (s : List UInt8), s.length ≤ n → (unq s).length ≤ s.length
  | _, [], _ => by rw [unq_nil]; omega
  | 0, c :: r, h => by simp at h
  | n + 1, c :: r, h => by
    simp only [List.length_cons] at h
    by_cases hc : 3 ≤ r.length ∧ c = 92 ∧ 0 ≤ hxi (r.getD 1 0) ∧ 0 ≤ hxi (r.getD 2 0)
    · rw [unq_hex hc]
      have := unq_len n (r.drop 3) (by simp; omega)
      simp at this ⊢
      omega
    · rw [unq_one hc]
      have := unq_len n r (by omega)
      simp
      omega
theorem hxi_hex : ∀ k : Fin 16, hxi (hexL.getD k.val 0) = (k.val : Int) := by decide +kernel
theorem unq_qc (b : UInt8) (rest : List UInt8) : unq (qc b ++ rest) = b :: unq rest := by
  have hb := b.toNat_lt
  unfold qc
  by_cases h : prn b = true
  · rw [if_pos h, List.singleton_append]
    refine unq_one ?_
    rintro ⟨_, rfl, _⟩
    revert h
    decide
  · rw [if_neg h]
    have h1 := hxi_hex ⟨b.toNat / 16, by omega⟩
    have h2 := hxi_hex ⟨b.toNat % 16, by omega⟩
    dsimp only at h1 h2
    generalize hexL.getD (b.toNat / 16) 0 = x at h1
    generalize hexL.getD (b.toNat % 16) 0 = y at h2
    show unq (92 :: 120 :: x :: y :: rest) = _
    rw [unq_hex ⟨by simp, rfl, by show 0 ≤ hxi x; omega, by show 0 ≤ hxi y; omega⟩]
    show UInt8.ofNat (hxi x * 16 + hxi y).toNat :: unq rest = _
    congr 1
    apply UInt8.toNat_inj.1
    rw [UInt8.toNat_ofNat', h1, h2]
    omega
theorem unq_quo : ∀ s : List UInt8, unq (s.flatMap qc) = s
  | [] => unq_nil
  | b :: r => by rw [List.flatMap_cons, unq_qc, unq_quo r]
/-- The cell that a text may tell. -/
def candF (s : List UInt8) : Cell :=
  if s = [110, 117, 108, 108] then cell0
  else if s = [116, 114, 117, 101] then (2, 1, ByteArray.empty)
  else if s = [102, 97, 108, 115, 101] then (2, 0, ByteArray.empty)
  else if 2 ≤ s.length ∧ s.getD 0 0 = 34 then (3, 0, mkB (unq ((s.drop 1).take (s.length - 2))))
  else (1, numF s, ByteArray.empty)
theorem candF_q {s : List UInt8} (h : s.length ≤ 9223372036854775807) : cellQ (candF s) := by
  have hb := numF_bound s
  have hu := unq_len _ ((s.drop 1).take (s.length - 2)) (Nat.le_refl _)
  rw [List.length_take, List.length_drop] at hu
  unfold candF
  have he : ByteArray.empty.size = 0 := rfl
  split
  · exact ⟨⟨by decide, by decide⟩, ⟨by decide, by decide⟩, by decide⟩
  · split
    · exact ⟨⟨by decide, by decide⟩, ⟨by decide, by decide⟩, by decide⟩
    · split
      · exact ⟨⟨by decide, by decide⟩, ⟨by decide, by decide⟩, by decide⟩
      · split
        · refine cellQ_mk (by omega) (by omega) (by omega) (by omega) ?_
          rw [mkB_size]
          omega
        · exact cellQ_mk (by omega) (by omega) hb.1 hb.2 (by rw [he]; omega)
theorem emptyB_eq {s : ByteArray} (h : B s = []) : s = ByteArray.empty := B_inj h
/-- What a cell is told as is read as the cell. -/
theorem cand_txt {c : Cell} (h : cellOK c = true) (q : cellQ c) : candF (txt c) = c := by
  unfold txt
  rw [if_pos h]
  obtain ⟨k, z, s⟩ := c
  rcases cellOK_kind h with e | e | e | e <;> dsimp only at e <;> subst e
  · have := ok0 h rfl
    dsimp only at this
    rw [if_pos rfl]
    unfold candF
    rw [if_pos rfl, this.1, emptyB_eq this.2]
    rfl
  · have hs := ok1 h rfl
    dsimp only at hs
    rw [if_neg (show ¬ (1 : Int) = 0 by omega), if_pos rfl]
    obtain ⟨x, r, hx, hd⟩ := itoa_head z
    have hn := numF_itoa q.2.1.1 q.2.1.2
    dsimp only at hn ⊢
    unfold candF
    rw [hn, hx]
    have hne : ∀ (y : UInt8) (t : List UInt8), x ≠ y → x :: r ≠ y :: t := fun y t hh e => hh (List.cons.inj e).1
    rw [if_neg (hne _ _ (by rintro rfl; revert hd; decide)), if_neg (hne _ _ (by rintro rfl; revert hd; decide)), if_neg (hne _ _ (by rintro rfl; revert hd; decide)), if_neg, emptyB_eq hs]
    rintro ⟨_, h2⟩
    have h2 : x = 34 := h2
    subst h2
    revert hd
    decide
  · have hs := ok2 h rfl
    dsimp only at hs
    rw [if_neg (show ¬ (2 : Int) = 0 by omega), if_neg (show ¬ (2 : Int) = 1 by omega), if_pos rfl, emptyB_eq hs.1]
    rcases hs.2 with rfl | rfl
    · rfl
    · rfl
  · have hs := (ok3 h rfl).1
    dsimp only at hs
    subst hs
    rw [if_neg (show ¬ (3 : Int) = 0 by omega), if_neg (show ¬ (3 : Int) = 1 by omega), if_neg (show ¬ (3 : Int) = 2 by omega)]
    unfold candF quo
    have hne : ∀ (y : UInt8) (t u : List UInt8), (34 : UInt8) ≠ y → 34 :: t ≠ y :: u := fun y t u hh e => hh (List.cons.inj e).1
    rw [if_neg (hne _ _ _ (by decide)), if_neg (hne _ _ _ (by decide)), if_neg (hne _ _ _ (by decide)), if_pos ⟨by simp, rfl⟩]
    have : ((34 :: ((B s).flatMap qc ++ [34])).drop 1).take ((34 :: ((B s).flatMap qc ++ [34])).length - 2) = (B s).flatMap qc := by simp
    rw [this, unq_quo, mkB_B]
theorem txt_ne {c : Cell} (h : cellOK c = true) : txt c ≠ [] := by
  unfold txt
  rw [if_pos h]
  split
  · simp
  · split
    · obtain ⟨x, r, hx, _⟩ := itoa_head c.2.1
      rw [hx]
      simp
    · split
      · split <;> simp
      · unfold quo
        simp
theorem txt_inj {a b : Cell} (ha : cellOK a = true) (hb : cellOK b = true) (qa : cellQ a) (qb : cellQ b) (h : txt a = txt b) : a = b := by
  rw [← cand_txt ha qa, h, cand_txt hb qb]
end Go.Proofs.YtlpniinmomhkcaaDoor.V
