/- ValueCut: the law's walk. -/
import Derived.Test.YtlpniinmomhkcaaDoorKCur
import Derived.Test.YtlpniinmomhkcaaDoorKRows
import Derived.Test.YtlpniinmomhkcaaDoorCut
import Derived.Test.YtlpniinmomhkcaaDoorHM2
set_option linter.unusedVariables false
set_option linter.unusedSimpArgs false
namespace Go.Proofs.YtlpniinmomhkcaaDoor.V
open Go Go.Proofs Go.RowKit

theorem keyR_take {row : List Cell} {i : Nat} {x : Cell} (h : row[i]? = some x) : keyR (row.take (i + 1)) = keyR (row.take i) ++ keyC x := by
  rw [take_snoc h]
  simp [keyR]
theorem keyR_mono {row : List Cell} : ∀ {i j : Nat}, i < j → j ≤ row.length → (keyR (row.take i)).length < (keyR (row.take j)).length
  | i, 0, h, _ => by omega
  | i, j + 1, h, hj => by
    have hget : row[j]? = some (row.getD j cell0) := by rw [List.getD_eq_getElem?_getD, List.getElem?_eq_getElem (by omega)]; rfl
    rw [keyR_take hget, List.length_append]
    have hp := keyC_pos (row.getD j cell0)
    by_cases e : i = j
    · subst e; omega
    · have := keyR_mono (row := row) (i := i) (j := j) (by omega) (by omega)
      omega
theorem keyR_inj {row : List Cell} {i j : Nat} (hi : i ≤ row.length) (hj : j ≤ row.length) (h : (keyR (row.take i)).length = (keyR (row.take j)).length) : i = j := by
  rcases Nat.lt_trichotomy i j with h1 | h1 | h1
  · have := keyR_mono h1 hj; omega
  · exact h1
  · have := keyR_mono h1 hi; omega
/-- Where the cells end, as the law's map holds it. -/
def endsP (row : List Cell) (i : Nat) : List (Int × Int) := (List.range (i + 1)).map fun j => (((keyR (row.take j)).length : Int), (j : Int))
theorem endsP_mem {row : List Cell} {i : Nat} {k v : Int} : (k, v) ∈ endsP row i ↔ ∃ j, j ≤ i ∧ k = ((keyR (row.take j)).length : Int) ∧ v = (j : Int) := by
  unfold endsP
  rw [List.mem_map]
  constructor
  · rintro ⟨j, hj, e⟩
    injection e with e1 e2
    exact ⟨j, by have := List.mem_range.1 hj; omega, e1.symm, e2.symm⟩
  · rintro ⟨j, hj, rfl, rfl⟩
    exact ⟨j, List.mem_range.2 (by omega), rfl⟩
theorem endsP_succ (row : List Cell) (i : Nat) : endsP row (i + 1) = endsP row i ++ [(((keyR (row.take (i + 1))).length : Int), ((i + 1 : Nat) : Int))] := by
  unfold endsP
  rw [List.range_succ, List.map_append]
  rfl
theorem keyR_len2 : ∀ {row : List Cell}, (∀ c ∈ row, cellOK c = true) → (keyR row).length ≤ 600 * row.length
  | [], _ => by simp [keyR]
  | x :: r, h => by
    have h1 := keyC_len (h x (by simp))
    have h2 := keyR_len2 (row := r) (fun c hc => h c (by simp [hc]))
    have : keyR (x :: r) = keyC x ++ keyR r := rfl
    rw [this, List.length_append, List.length_cons]
    omega
theorem cut_calls {w : World} (hp : Pow w) {A : Option Addr} {n c : Nat} {row : List Cell} (h : Sli cellE w A n row) (hcap : n ≤ c) (q : ∀ c ∈ row, cellQ c) {x : Int} (hx0 : -9223372036854775808 ≤ x) (hx1 : x < 9223372036854775808) :
    Calls Tryd.prog 4 #[.slice A n c, .int .i64 x] w (Ret fun v w' => v = .bool true ∧ Ext w w') := by
  apply calls4
  unfold S4
  have hl := h.len
  refine callW_of (lives_calls hp) ?_
  rintro _ w1 ⟨rfl, he1⟩
  refine ⟨_, rfl, splitW_f (by rfl) ?_⟩
  refine callW_of (may_calls (h.ext he1) q) ?_
  rintro _ w2 ⟨⟨m1, rfl, hm1⟩, he2⟩
  have hx2 := he1.trans he2
  refine ⟨_, rfl, splitW_i (fun _ => ⟨rfl, hx2⟩) fun hm => ?_⟩
  obtain ⟨hn, hk⟩ := hm1 (by simpa using hm)
  refine splitW_i (fun _ => ⟨rfl, hx2⟩) fun hn0 => ?_
  have hok : rowOK row = true := by unfold rowOK; rw [List.all_eq_true]; exact hk
  refine callW_of (vkey_calls (h.ext hx2) q (by omega)) ?_
  rw [hok, if_pos rfl]
  rintro _ w3 ⟨rfl, he3⟩
  have hx3 := hx2.trans he3
  refine ⟨_, rfl, ?_⟩
  have hkl := keyR_len2 hk
  refine makeMap_m fun w4 hm4 he4 hs4 => ?_
  have hx4 := hx3.trans he4
  have hwr : w.heap.size ≤ w3.heap.size := hx3.size
  generalize w3.heap.size = r at hm4 hs4 hwr ⊢
  refine mapUpdate_m (kt := 3) (et := 3) (by kernel_rfl) (by kernel_rfl) hm4 (by simp) ?_
  intro w5 hm5 hg5
  have hx5 : Ext w w5 := hx4.grown hg5 (fun j hj => by cases hj; omega)
  have hm5 : MapAt w5 r (endsP row 0) := hm5
  refine loopW_i (fun y w' => ∃ i : Nat, i ≤ n ∧ y = (((keyR (row.take i)).length : Int), (i : Int), ()) ∧ Ext w w' ∧ MapAt w' r (endsP row i)) (fun y => (n - y.2.1).toNat) ⟨0, by omega, rfl, hx5, hm5⟩ ?_
  rintro _ w6 ⟨i, hi, rfl, he6, hm6⟩
  dsimp only
  by_cases hlt : i < n
  · refine splitW_t (decide_eq_true (by omega)) ?_
    rw [wrap_i64 (x := (i : Int) + 1) (by omega) (by omega)]
    refine ⟨⟨by omega, by omega, by omega⟩, ?_⟩
    have hget : row[i]? = some (row.getD i cell0) := by rw [List.getD_eq_getElem?_getD, List.getElem?_eq_getElem (by omega)]; rfl
    have hmem := List.mem_of_getElem? hget
    have htk := keyR_take hget
    have hcut : (row.drop i).take 1 = [row.getD i cell0] := by
      rw [List.drop_eq_getElem_cons (by omega), List.getD_eq_getElem?_getD, List.getElem?_eq_getElem (by omega)]
      rfl
    have hs : Sli cellE w6 (cutAddr A i c 3) 1 [row.getD i cell0] := by
      rw [← hcut]
      exact (h.ext he6).cut (l := i) (k := 1) (m := c) rfl (by omega) (by omega)
    generalize row.getD i cell0 = y at hget hmem htk hs
    rw [show Int.toNat ((i : Int) + 1) - Int.toNat (i : Int) = 1 by omega, Int.toNat_natCast]
    refine callW_of (vkey_calls hs (fun d hd => by rw [List.mem_singleton.1 hd]; exact q y hmem) (by omega)) ?_
    have hoky : rowOK [y] = true := by unfold rowOK; simp [hk y hmem]
    rw [hoky, if_pos rfl, show keyR [y] = keyC y by simp [keyR]]
    rintro _ w7 ⟨rfl, he7⟩
    have hx7 := he6.trans he7
    refine ⟨_, rfl, ?_⟩
    have hky := keyC_len (hk y hmem)
    have hti := keyR_len2 (row := row.take i) (fun d hd => hk d (List.mem_of_mem_take hd))
    rw [List.length_take] at hti
    have hadd : IntKind.wrap .i64 (((keyR (row.take i)).length : Int) + (((mkB (keyC y)).size : Nat) : Int)) = ((keyR (row.take (i + 1))).length : Int) := by
      rw [htk, List.length_append, mkB_size, wrap_i64 (by omega) (by omega)]
      omega
    rw [hadd]
    refine mapUpdate_m (kt := 3) (et := 3) (by kernel_rfl) (by kernel_rfl) (hm6.ext he7) ?_ ?_
    · rintro ⟨k, v⟩ hkv
      obtain ⟨j, hj, rfl, rfl⟩ := endsP_mem.1 hkv
      have := keyR_mono (row := row) (i := j) (j := i + 1) (by omega) (by omega)
      show ((keyR (row.take j)).length : Int) ≠ _
      omega
    · intro w8 hm8 hg8
      refine ⟨⟨i + 1, by omega, rfl, hx7.grown hg8 (fun j hj => by cases hj; omega), ?_⟩, by omega⟩
      rw [endsP_succ]
      exact hm8
  · obtain rfl : i = n := by omega
    refine splitW_f (decide_eq_false (by omega)) ?_
    have htake : row.take i = row := List.take_of_length_le (by omega)
    refine splitW_f (bne_eq_false_iff_eq.2 (by rw [htake, mkB_size])) ?_
    rw [mkB_size, wrap_i64 (x := ((keyR row).length : Int) + 1) (by omega) (by omega)]
    refine callW_of (pick_calls w6 hx0 hx1 (by omega)) ?_
    rintro _ w7 ⟨rfl, hw⟩
    subst hw
    have hpk : 0 ≤ pick x (((keyR row).length : Int) + 1) ∧ pick x (((keyR row).length : Int) + 1) ≤ ((keyR row).length : Int) := by
      unfold pick
      rw [if_neg (by omega)]
      have h1 := Int.emod_nonneg x (show ((keyR row).length : Int) + 1 ≠ 0 by omega)
      have h2 := Int.emod_lt_of_pos x (show 0 < ((keyR row).length : Int) + 1 by omega)
      omega
    generalize pick x (((keyR row).length : Int) + 1) = k at hpk ⊢
    obtain ⟨k, rfl⟩ : ∃ k' : Nat, k = (k' : Int) := ⟨k.toNat, by omega⟩
    refine ⟨_, rfl, ⟨by omega, by omega⟩, ?_⟩
    have ex : (mkB (keyR row)).extract 0 (Int.toNat (k : Int)) = mkB ((keyR row).take k) := by
      apply B_inj
      rw [B_extract, B_mkB, B_mkB, Int.toNat_natCast]
      simp
    rw [ex]
    refine callW_of (unkey_calls w7 _ (by rw [mkB_size, List.length_take]; omega)) ?_
    rw [B_mkB]
    rintro _ w8 ⟨he8, y, hy⟩
    have hx8 := he6.trans he8
    have hm8 := hm6.ext he8
    rcases unkey_cut (row := row) k (fun d hd => ⟨hk d hd, q d hd⟩) (by omega) with ⟨m, hmn, e, hu⟩ | ⟨hno, hu⟩
    · rw [hu] at hy
      obtain ⟨rfl, hsy⟩ := hy
      refine ⟨(y, 0, ()), rfl, ?_⟩
      refine lookup_m (kt := 3) (et := 3) (by kernel_rfl) (by kernel_rfl) (by kernel_rfl) hm8 (fun v hv => ?_) (fun hv => ?_)
      · obtain ⟨j, hj, e1, rfl⟩ := endsP_mem.1 hv
        obtain rfl : j = m := keyR_inj (by omega) hmn (by omega)
        refine splitW_f (by rfl) (splitW_t (by rfl) ?_)
        refine new_i fun r11 w9 hb11 he9 _ _ => ?_
        refine ⟨⟨by omega, by show (j : Int) ≤ (c : Int); omega⟩, ?_⟩
        refine new_i fun r12 w10 hb12 he10 _ _ => ?_
        have hx10 := (hx8.trans he9).trans he10
        have hs12 : Sli cellE w10 (cutAddr A 0 c 3) j (row.take j) := (h.ext hx10).cut0 (k := j) (m := c) rfl (by omega) (by omega)
        refine callW_of (samerows1_calls (hb11.ext he10) hb12 ((hsy.ext he9).ext he10) hs12) ?_
        rintro _ w11 ⟨⟨b, rfl, hb⟩, he11⟩
        rw [hb.2 rfl]
        exact ⟨_, rfl, rfl, hx10.trans he11⟩
      · exact absurd rfl (hv (k, (m : Int)) (endsP_mem.2 ⟨m, by omega, by omega, rfl⟩))
    · rw [hu] at hy
      subst hy
      refine ⟨((none, 0, 0), 160, ()), rfl, ?_⟩
      refine lookup_m (kt := 3) (et := 3) (by kernel_rfl) (by kernel_rfl) (by kernel_rfl) hm8 (fun v hv => ?_) (fun _ => ?_)
      · obtain ⟨j, hj, e1, rfl⟩ := endsP_mem.1 hv
        exact absurd (by omega) (hno j (by omega))
      · exact splitW_t (by rfl) (splitW_t (by rfl) ⟨rfl, hx8⟩)
end Go.Proofs.YtlpniinmomhkcaaDoor.V
