/- Laws of chapter 12. -/
import Derived.Test.YtmogbadaoaikcaaKCounts
set_option linter.unusedVariables false
set_option linter.unusedSimpArgs false
namespace Go.Proofs.Ytmogbadaoaikcaa.V
open Go Go.Proofs Go.RowKit

theorem small_calls (w : World) : Calls Try.prog 16 #[] w (Ret fun v w' => v = .agg #[.int .i64 128, .int .i64 8] ∧ Ext w w') := by
  apply calls16
  unfold S16
  refine box_i (vs := [(.int .i64 128), (.int .i64 8)]) (by rfl) (by intro v hv; simp only [List.mem_cons, List.not_mem_nil, or_false] at hv; rcases hv with rfl | rfl <;> rfl) ?_ (by rfl)
  intro r w1 hb he _
  refine ldA_blk (ls := [(.int .i64), (.int .i64)]) (x := (128, 8, ())) hb rfl ?_
  exact ⟨rfl, he⟩
theorem newsmall_calls (w : World) : Calls Try.prog 9 #[.agg #[.int .i64 128, .int .i64 8]] w (Ret fun v w' => (∃ b r, v = .tuple #[.pointer (some ⟨b, 0, none⟩), .int .i64 0] ∧ Cnt w' b r 128 [] [1, 1, 0, 0, 0, 0, 0, 0] ∧ w.heap.size ≤ b ∧ w.heap.size ≤ r) ∧ Ext w w') := by
  refine (new_calls w 128 8).mono (Ret.mono ?_)
  rintro v w' ⟨x, rfl, hx, he⟩
  have hg : geoOK 128 8 = true := by decide
  rw [hg, if_pos rfl] at hx
  obtain ⟨b, r, rfl, hc, h1, h2⟩ := hx
  exact ⟨⟨b, r, by rw [hg]; rfl, hc, h1, h2⟩, he⟩
theorem lives_calls (w : World) : Calls Try.prog 8 #[] w (Ret fun v w' => v = .bool true ∧ Ext w w') := by
  apply calls8
  unfold S8
  refine callW_of (small_calls w) ?_
  rintro _ w1 ⟨rfl, he1⟩
  refine ⟨(128, 8, ()), rfl, ?_⟩
  refine callW_of (newsmall_calls w1) ?_
  rintro _ w2 ⟨⟨b, r, rfl, hc, hb1, hr1⟩, he2⟩
  refine ⟨(some ⟨b, 0, none⟩, 0, ()), rfl, ?_⟩
  dsimp only
  refine splitW_f (by rfl) ?_
  refine splitW_f (by rfl) ?_
  have he02 := he1.trans he2
  have hr : w.heap.size ≤ r := Nat.le_trans he1.size hr1
  have step : ∀ {w1 w2 : World}, Ext w w1 → w1.grownBy w2 (some r) → Ext w w2 := fun he hg => he.grown hg (fun j hj => by injection hj with hj; omega)
  refine callW_of (take_calls hc (.inl ⟨rfl, rfl⟩)) ?_
  rintro _ w3 ⟨rfl, hc3, hg3⟩
  refine ⟨(2, 0, ()), rfl, ?_⟩
  refine callW_of (take_calls hc3 (.inl ⟨rfl, rfl⟩)) ?_
  rintro _ w4 ⟨rfl, hc4, hg4⟩
  refine ⟨(3, 0, ()), rfl, ?_⟩
  refine callW_of (sub_calls hc4 2 (by omega)) ?_
  rintro _ w5 ⟨rfl, hc5, hg5⟩
  refine ⟨(0, 0, ()), rfl, ?_⟩
  refine callW_of (take_calls hc5 (.inl ⟨rfl, rfl⟩)) ?_
  rintro _ w6 ⟨rfl, hc6, hg6⟩
  refine ⟨(2, 0, ()), rfl, ?_⟩
  dsimp only
  refine splitW_t (by rfl) ?_
  refine splitW_t (by rfl) ?_
  refine splitW_t (by rfl) ?_
  refine splitW_t (by rfl) ?_
  refine splitW_t (by rfl) ?_
  refine splitW_t (by rfl) ?_
  refine splitW_t (by rfl) ?_
  exact ⟨rfl, step (step (step (step he02 hg3) hg4) hg5) hg6⟩
def lst (x : Nat) : List Nat := [1, 1, x, 0, 0, 0, 0, 0]
theorem atE_lst (x : Nat) : atE (lst x) 2 = if x = 0 then 8 else 0 := by
  unfold atE
  rw [if_neg (by simp [lst])]
  rfl
theorem sums_calls (w : World) {up down : Int} (hu0 : -9223372036854775808 ≤ up) (hu1 : up < 9223372036854775808) (hd0 : -9223372036854775808 ≤ down) (hd1 : down < 9223372036854775808) :
    Calls Try.prog 4 #[.int .i64 up, .int .i64 down] w (Ret fun v w' => v = .bool true ∧ Ext w w') := by
  apply calls4
  unfold S4
  refine callW_of (lives_calls w) ?_
  rintro _ w1 ⟨rfl, he1⟩
  refine ⟨_, rfl, ?_⟩
  refine splitW_f (by rfl) ?_
  refine callW_of (pick_calls w1 hu0 hu1 (by omega)) ?_
  rintro _ w2 ⟨rfl, hw2⟩
  subst hw2
  refine ⟨_, rfl, ?_⟩
  refine callW_of (pick_calls w2 hd0 hd1 (by omega)) ?_
  rintro _ w3 ⟨rfl, hw3⟩
  subst hw3
  refine ⟨_, rfl, ?_⟩
  obtain ⟨U, hU, hU2⟩ : ∃ U : Nat, pick up 300 = U ∧ U < 300 := by
    refine ⟨(pick up 300).toNat, ?_, ?_⟩ <;> · unfold pick; rw [if_neg (by omega)]; omega
  obtain ⟨D, hD, hD2⟩ : ∃ D : Nat, pick down 400 = D ∧ D < 400 := by
    refine ⟨(pick down 400).toNat, ?_, ?_⟩ <;> · unfold pick; rw [if_neg (by omega)]; omega
  rw [hU, hD]
  refine callW_of (small_calls w3) ?_
  rintro _ w4 ⟨rfl, he4⟩
  refine ⟨(128, 8, ()), rfl, ?_⟩
  refine callW_of (newsmall_calls w4) ?_
  rintro _ w5 ⟨⟨b, r, rfl, hc5, hb1, hr1⟩, he5⟩
  refine ⟨(some ⟨b, 0, none⟩, 0, ()), rfl, ?_⟩
  dsimp only
  have he05 := (he1.trans he4).trans he5
  have hr : w.heap.size ≤ r := Nat.le_trans (he1.trans he4).size hr1
  have step : ∀ {w1 w2 : World}, Ext w w1 → w1.grownBy w2 (some r) → Ext w w2 := fun he hg => he.grown hg (fun j hj => by injection hj with hj; omega)
  refine callW_of (take_calls hc5 (.inl ⟨rfl, rfl⟩)) ?_
  rintro _ w6 ⟨rfl, hc6, hg6⟩
  refine ⟨(2, 0, ()), rfl, ?_⟩
  have hc6 : Cnt w6 b r 128 [] (lst 1) := hc6
  have he06 := step he05 hg6
  refine callW_of (cntclone_calls hc6) ?_
  rintro _ w7 ⟨⟨b2, r2, q2, rfl, hc7, hb2, hr2⟩, he7⟩
  refine ⟨some ⟨b2, 0, none⟩, rfl, ?_⟩
  dsimp only
  refine splitW_f (by rfl) ?_
  refine splitW_f (by rfl) ?_
  have he07 := he06.trans he7
  have hrlt := hc6.row.lt
  have hne1 : b2 ≠ r := by omega
  have hne2 : r2 ≠ r := by omega
  have hcc7 := hc6.ext he7
  refine loopW_i (fun x w' => Ext w w' ∧ ∃ i : Nat, i ≤ U ∧ x = ((i : Int), ()) ∧ Cnt w' b r 128 [] (lst (i + 1)) ∧ Cnt w' b2 r2 128 q2 (lst 1)) (fun x => (U - x.1).toNat) ⟨he07, 0, by omega, rfl, hcc7, hc7⟩ ?_
  rintro _ w8 ⟨he8, i, hi, rfl, hc8, ho8⟩
  dsimp only
  by_cases hlt : i < U
  · refine splitW_t (decide_eq_true (by omega)) ?_
    refine callW_of (add_calls hc8 2 (by omega)) ?_
    rintro _ w9 ⟨rfl, hc9, hg9⟩
    refine ⟨addE (lst (i + 1)) 2, rfl, ?_⟩
    have ha : addE (lst (i + 1)) 2 = 0 := by
      unfold addE
      rw [atE_lst, if_neg (show ¬ i + 1 = 0 by omega), if_pos rfl, if_neg (show ¬ (lst (i + 1)).getD 2 0 = 65535 by show ¬ i + 1 = 65535; omega)]
    have hl : addL (lst (i + 1)) 2 = lst (i + 1 + 1) := by
      unfold addL
      rw [if_pos ha]
      rfl
    rw [hl] at hc9
    rw [ha]
    refine splitW_f (by rfl) ?_
    rw [wrap_i64 (by omega) (by omega)]
    exact ⟨⟨step he8 hg9, i + 1, by omega, rfl, hc9, ho8.kept hg9 hne1 hne2⟩, by omega⟩
  · obtain rfl : i = U := by omega
    refine splitW_f (decide_eq_false (by omega)) ?_
    rw [wrap_i64 (x := (i : Int) + 1) (by omega) (by omega)]
    refine loopW_i (fun x w' => Ext w w' ∧ ∃ j : Nat, j ≤ D ∧ x = (((i + 1 - j : Nat) : Int), (j : Int), ()) ∧ Cnt w' b r 128 [] (lst (i + 1 - j)) ∧ Cnt w' b2 r2 128 q2 (lst 1)) (fun x => (D - x.2.1).toNat) ⟨he8, 0, by omega, rfl, hc8, ho8⟩ ?_
    rintro _ w9 ⟨he9, j, hj, rfl, hc9, ho9⟩
    dsimp only
    by_cases hjlt : j < D
    · refine splitW_t (decide_eq_true (by omega)) ?_
      refine callW_of (sub_calls hc9 2 (by omega)) ?_
      rintro _ w10 ⟨rfl, hc10, hg10⟩
      refine ⟨((subN (lst (i + 1 - j)) 2 : Nat), atE (lst (i + 1 - j)) 2, ()), rfl, ?_⟩
      dsimp only
      rw [wrap_i64 (x := (j : Int) + 1) (by omega) (by omega)]
      by_cases hz : i + 1 - j = 0
      · have e0 : atE (lst (i + 1 - j)) 2 = 8 := by rw [atE_lst, if_pos hz]
        have e1 : subL (lst (i + 1 - j)) 2 = lst (i + 1 - (j + 1)) := by
          unfold subL
          rw [if_neg (by rw [e0]; decide), hz, show i + 1 - (j + 1) = 0 by omega]
        rw [e1] at hc10
        rw [e0]
        refine splitW_t (by rw [beq_iff_eq]; omega) ?_
        refine splitW_f (by rfl) ?_
        refine ⟨⟨step he9 hg10, j + 1, by omega, ?_, hc10, ho9.kept hg10 hne1 hne2⟩, by omega⟩
        rw [hz, show i + 1 - (j + 1) = 0 by omega]
        rfl
      · have e0 : atE (lst (i + 1 - j)) 2 = 0 := by rw [atE_lst, if_neg hz]
        have e1 : subL (lst (i + 1 - j)) 2 = lst (i + 1 - (j + 1)) := by
          unfold subL
          rw [if_pos e0]
          show lst (i + 1 - j - 1) = _
          congr 1
        have e2 : subN (lst (i + 1 - j)) 2 = i + 1 - j - 1 := by
          unfold subN
          rw [if_pos e0]
          rfl
        rw [e1] at hc10
        rw [e0, e2]
        refine splitW_f (by rw [beq_eq_false_iff_ne]; omega) ?_
        refine splitW_f (by rfl) ?_
        rw [wrap_i64 (by omega) (by omega)]
        refine splitW_f (by rw [bne_eq_false_iff_eq]; have hq : 1 ≤ i + 1 - j := by omega
                            generalize i + 1 - j = z at hq ⊢; show ((z - 1 : Nat) : Int) = (z : Int) - 1; omega) ?_
        refine ⟨⟨step he9 hg10, j + 1, by omega, ?_, hc10, ho9.kept hg10 hne1 hne2⟩, by omega⟩
        refine Prod.ext ?_ rfl
        simp only
        omega
    · obtain rfl : j = D := by omega
      refine splitW_f (decide_eq_false (by omega)) ?_
      refine callW_of (get_calls hc9 2 (by omega)) ?_
      rintro _ w10 ⟨rfl, hw10⟩
      subst hw10
      refine ⟨_, rfl, ?_⟩
      refine splitW_t (by rw [beq_iff_eq]; rfl) ?_
      refine callW_of (get_calls ho9 2 (by omega)) ?_
      rintro _ w11 ⟨rfl, hw11⟩
      subst hw11
      refine ⟨_, rfl, ?_⟩
      refine splitW_t (by rfl) ?_
      refine splitW_i (fun h => ⟨rfl, he9⟩) (fun h => ?_)
      have h := of_decide_eq_false h
      refine callW_of (add_calls hc9 2 (by omega)) ?_
      rintro _ w12 ⟨rfl, hc12, hg12⟩
      refine ⟨addE (lst (i + 1 - j)) 2, rfl, ?_⟩
      have ha : addE (lst (i + 1 - j)) 2 = 8 := by
        unfold addE
        rw [atE_lst, if_pos (show i + 1 - j = 0 by omega), if_neg (by decide)]
      rw [ha]
      exact ⟨rfl, step he9 hg12⟩
end Go.Proofs.Ytmogbadaoaikcaa.V
