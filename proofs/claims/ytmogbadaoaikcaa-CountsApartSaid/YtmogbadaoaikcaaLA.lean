/- CountsApart, as a contract. -/
import Derived.Test.YtmogbadaoaikcaaLT
import Derived.Test.YtmogbadaoaikcaaKCounts2
set_option linter.unusedVariables false
set_option linter.unusedSimpArgs false
namespace Go.Proofs.Ytmogbadaoaikcaa.V
open Go Go.Proofs Go.RowKit

/-! ### Pages, byte by byte -/
theorem flat2_length : ∀ cs : List Nat, (cs.flatMap (le 2)).length = 2 * cs.length
  | [] => rfl
  | c :: r => by
    rw [List.flatMap_cons, List.length_append, flat2_length r, le_length, List.length_cons]
    omega
theorem flat2_getD : ∀ (cs : List Nat) (k : Nat), k < 2 * cs.length → (cs.flatMap (le 2)).getD k 0 = UInt8.ofNat (cs.getD (k / 2) 0 / 256 ^ (k % 2))
  | [], k, h => by simp at h
  | c :: r, 0, h => by simp [le, List.range_succ]
  | c :: r, 1, h => by simp [le, List.range_succ]
  | c :: r, k + 2, h => by
    have h2 : k < 2 * r.length := by simp only [List.length_cons] at h; omega
    have ih := flat2_getD r k h2
    rw [List.flatMap_cons]
    have e1 : (le 2 c ++ r.flatMap (le 2)).getD (k + 2) 0 = (r.flatMap (le 2)).getD k 0 := by
      rw [List.getD_eq_getElem?_getD, List.getD_eq_getElem?_getD, List.getElem?_append_right (by rw [le_length]; omega), le_length]
      simp
    rw [e1, ih]
    have e2 : (k + 2) / 2 = k / 2 + 1 := by omega
    have e3 : (k + 2) % 2 = k % 2 := by omega
    rw [e2, e3]
    simp
theorem pageB_length (l : List Nat) (per i : Nat) : (pageB l per i).length = 2 * min per (l.length - i * per) := by
  unfold pageB
  rw [flat2_length]
  simp
theorem pageB_getD {l : List Nat} {per i k : Nat} (h : k < (pageB l per i).length) : (pageB l per i).getD k 0 = UInt8.ofNat (l.getD (i * per + k / 2) 0 / 256 ^ (k % 2)) := by
  have h2 := h
  rw [pageB_length] at h2
  unfold pageB
  rw [flat2_getD _ _ (by simp; omega)]
  have e : ((l.drop (i * per)).take per).getD (k / 2) 0 = l.getD (i * per + k / 2) 0 := by
    rw [List.getD_eq_getElem?_getD, List.getD_eq_getElem?_getD, List.getElem?_take_of_lt (by omega), List.getElem?_drop]
  rw [e]
theorem pages_get {l : List Nat} {per i : Nat} (h : i < cutsN l.length per) : (pagesL l per)[i]? = some ⟨(pageB l per i).toArray⟩ := by
  simp [pagesL, h]
def g4 (m x j : Nat) : Nat := if j = m then x else 1
theorem add_g4 {n m x : Nat} (h2 : 2 ≤ m) (hm : m < n) (hx1 : 1 ≤ x) (hx : x < 65535) : addE (fl n (g4 m x)) m = 0 ∧ addL (fl n (g4 m x)) m = fl n (g4 m (x + 1)) := by
  have e0 : (fl n (g4 m x)).getD m 0 = x := by rw [getD_fl hm]; simp [g4]
  have e1 : atE (fl n (g4 m x)) m = 0 := by
    unfold atE
    rw [length_fl, if_neg (by omega), e0, if_neg (by omega)]
  have e2 : addE (fl n (g4 m x)) m = 0 := by
    unfold addE
    rw [if_pos e1, e0, if_neg (by omega)]
  refine ⟨e2, ?_⟩
  unfold addL
  rw [if_pos e2, e0]
  refine fl_set hm (by simp [g4]) fun i _ hi => by simp [g4, hi]
/-- How many bytes ahead of place p are difike. -/
def dif (m x p : Nat) : Nat := (if 2 * m < p ∧ x % 256 ≠ 1 then 1 else 0) + (if 2 * m + 1 < p ∧ x / 256 ≠ 0 then 1 else 0)
theorem byte_g4 {n m x g : Nat} (hx : x < 65536) (hm : m < n) (hg : g / 2 < n) :
    (UInt8.ofNat ((fl n (g4 m x)).getD (g / 2) 0 / 256 ^ (g % 2)) ≠ UInt8.ofNat ((fl n (g4 m 1)).getD (g / 2) 0 / 256 ^ (g % 2))) ↔ dif m x (g + 1) ≠ dif m x g := by
  rw [getD_fl hg, getD_fl hg]
  unfold g4 dif
  by_cases he : g / 2 = m
  · rw [if_pos he, if_pos he]
    rcases Nat.mod_two_eq_zero_or_one g with h0 | h0
    · rw [h0, Nat.pow_zero, Nat.div_one, Nat.div_one]
      have hg2 : g = 2 * m := by omega
      subst hg2
      rw [Ne, ← UInt8.toNat_inj, UInt8.toNat_ofNat', UInt8.toNat_ofNat']
      by_cases h1 : x % 256 = 1
      · have z : ¬ (2 * m + 1 < 2 * m) := by omega
        simp [h1, z]
      · rw [if_neg (show ¬ (2 * m < 2 * m ∧ _) by omega), if_pos (⟨by omega, h1⟩), if_neg (show ¬ (2 * m + 1 < 2 * m + 1 ∧ _) by omega), if_neg (show ¬ (2 * m + 1 < 2 * m ∧ _) by omega)]
        omega
    · rw [h0, Nat.pow_one]
      have hg2 : g = 2 * m + 1 := by omega
      subst hg2
      rw [Ne, ← UInt8.toNat_inj, UInt8.toNat_ofNat', UInt8.toNat_ofNat']
      by_cases h1 : x / 256 = 0
      · have z : 2 * m < 2 * m + 1 + 1 := by omega
        by_cases c : x % 256 = 1 <;> simp [h1, z, c]
      · rw [if_pos (show (2 * m + 1 < 2 * m + 1 + 1 ∧ _) from ⟨by omega, h1⟩), if_neg (show ¬ (2 * m + 1 < 2 * m + 1 ∧ _) by omega)]
        have e : (if 2 * m < 2 * m + 1 + 1 ∧ x % 256 ≠ 1 then 1 else 0) = (if 2 * m < 2 * m + 1 ∧ x % 256 ≠ 1 then 1 else 0) := by
          congr 1
          simp only [eq_iff_iff]
          omega
        rw [e]
        omega
  · rw [if_neg he, if_neg he]
    have e1 : (2 * m < g + 1) = (2 * m < g) := by simp only [eq_iff_iff]; omega
    have e2 : (2 * m + 1 < g + 1) = (2 * m + 1 < g) := by simp only [eq_iff_iff]; omega
    simp [e1, e2]
theorem dif_up {m x g : Nat} (h : dif m x (g + 1) ≠ dif m x g) : dif m x (g + 1) = dif m x g + 1 := by
  unfold dif at h ⊢
  by_cases c1 : x % 256 = 1 <;> by_cases c2 : x / 256 = 0 <;> simp only [c1, c2, ne_eq, not_true_eq_false, not_false_eq_true, and_true, and_false, if_false, ite_false, reduceIte] at h ⊢ <;> (repeat' split at h) <;> (repeat' split) <;> omega
theorem dif_end {m x p : Nat} (h : 2 * m + 1 < p) : dif m x p = (if x % 256 ≠ 1 then 1 else 0) + (if x / 256 ≠ 0 then 1 else 0) := by
  unfold dif
  have e1 : (2 * m < p) = True := by simp only [eq_iff_iff, iff_true]; omega
  simp [e1, h]
theorem dif_zero (m x : Nat) : dif m x 0 = 0 := by simp [dif]
theorem dif_le (m x p : Nat) : dif m x p ≤ 2 := by unfold dif; split <;> split <;> omega
theorem apart_calls (w : World) {size blocks times : Int} {x : Nat} (hb0 : -9223372036854775808 ≤ blocks) (hb1 : blocks < 9223372036854775808) (hx : x < 4294967296) (ht0 : -9223372036854775808 ≤ times) (ht1 : times < 9223372036854775808) :
    Calls Try.prog 5 #[.agg #[.int .i64 size, .int .i64 blocks], .int .u32 (x : Int), .int .i64 times] w (Ret fun v w' => v = .bool true ∧ Ext w w') := by
  apply calls5
  unfold S5
  apply newW_i
  have hb : Blk (w.alloc (.cells #[(.int .i64 size), (.int .i64 blocks)] 23)) w.heap.size [(.int .i64 size), (.int .i64 blocks)] 23 := Blk.new w _ _
  have he0 : Ext w (w.alloc (.cells #[(.int .i64 size), (.int .i64 blocks)] 23)) := (Ext.refl w).alloc _
  generalize w.alloc (.cells #[(.int .i64 size), (.int .i64 blocks)] 23) = w0 at hb he0 ⊢
  obtain ⟨gb, hgb⟩ : ∃ gb, gb = w.heap.size := ⟨_, rfl⟩
  rw [← hgb] at hb ⊢
  refine callW_of (lives_calls w0) ?_
  rintro _ w1 ⟨rfl, he1⟩
  refine ⟨_, rfl, ?_⟩
  refine splitW_f (by rfl) ?_
  have rdg : ∀ {w' : World} {K : (Int × Int × Unit) → WP}, Ext w0 w' → K (size, blocks, ()) w' → ldAW [(.int .i64), (.int .i64)] ⟨gb, 0, none⟩ K w' := fun {w' K} he hk => ldA_blk (ls := [(.int .i64), (.int .i64)]) (x := (size, blocks, ())) (hb.ext he) rfl hk
  refine rdg he1 ?_
  refine callW_of (new_calls w1 size blocks) ?_
  rintro _ w2 ⟨x1, rfl, hx1, he2⟩
  refine ⟨(x1, (if geoOK size blocks then 0 else 2), ()), rfl, ?_⟩
  have he02 := he1.trans he2
  refine rdg he02 ?_
  refine callW_of (lightgeo_calls w2 size blocks) ?_
  rintro _ w3 ⟨rfl, he3⟩
  refine ⟨_, rfl, ?_⟩
  have he03 := he02.trans he3
  refine splitW_i (fun _ => ⟨rfl, he0.trans he03⟩) (fun hlight => ?_)
  dsimp only
  cases hok : geoOK size blocks with
  | false => rw [if_neg (by simp)]; exact splitW_t (by rfl) ⟨rfl, he0.trans he03⟩
  | true =>
  rw [if_pos rfl]
  refine splitW_f (by rfl) ?_
  rw [hok, if_pos rfl] at hx1
  obtain ⟨b, r, rfl, hc, hbw, hrw⟩ := hx1
  have hok8 : geoOK size 8 = true := by
    unfold geoOK at hok ⊢
    have := of_decide_eq_true hok
    exact decide_eq_true (by omega)
  unfold geoOK at hok
  have hok := of_decide_eq_true hok
  obtain ⟨n, rfl⟩ : ∃ n : Nat, blocks = n := ⟨blocks.toNat, by omega⟩
  have hn : 8 ≤ n ∧ n ≤ 40 := by
    have hl : lightGeo size (n : Int) = true := by simpa using hlight
    unfold lightGeo at hl
    rw [if_neg (by omega)] at hl
    have := of_decide_eq_true hl
    omega
  rw [Int.toNat_natCast, newL_fl hn.1] at hc
  have hrlt := hc.row.lt
  have hc := hc.ext he3
  have hr0 : w0.heap.size ≤ r := by have := he1.size; omega
  have rdb : ∀ {w' : World} {K : Int → WP}, Ext w0 w' → K (n : Int) w' → ldW (.int .i64) ((⟨gb, 0, none⟩ : Addr).add 1) K w' := fun {w' K} he hk => ld_blk (o := 1) (x := (n : Int)) (hb.ext he) (by rfl) hk
  have hgrow : ∀ {w' w'' : World}, Ext w0 w' → w'.grownBy w'' (some r) → Ext w0 w'' := fun he hg => he.grown hg (fun j hj => by injection hj with hj; omega)
  refine rdb he03 ?_
  have em : IntKind.wrap .u32 ((2 : Int) + Int.tmod (x : Int) (IntKind.wrap .u32 (IntKind.wrap .i64 ((n : Int) - 2)))) = ((2 + x % (n - 2) : Nat) : Int) := by
    rw [wrap_i64 (by omega) (by omega), show (n : Int) - 2 = ((n - 2 : Nat) : Int) by omega, wrap_u32_nat (by omega)]
    rw [show Int.tmod (x : Int) ((n - 2 : Nat) : Int) = ((x % (n - 2) : Nat) : Int) from rfl]
    have := Nat.mod_lt x (show 0 < n - 2 by omega)
    rw [wrap_u32]
    omega
  simp only [em]
  have hmlt := Nat.mod_lt x (show 0 < n - 2 by omega)
  obtain ⟨m, hm⟩ : ∃ m, m = 2 + x % (n - 2) := ⟨_, rfl⟩
  rw [← hm]
  have hm2 : 2 ≤ m ∧ m < n := by omega
  clear hm hmlt em
  refine guard_i (by rw [wrap_i64 (by omega) (by omega), wrap_u32]; omega) ?_
  refine callW_of (pick_calls w3 ht0 ht1 (by omega)) ?_
  rintro _ _ ⟨rfl, hw⟩
  subst hw
  refine ⟨_, rfl, ?_⟩
  obtain ⟨T, hT⟩ : ∃ T : Nat, pick times 300 = (T : Int) ∧ T < 300 := by
    refine ⟨(pick times 300).toNat, ?_⟩
    unfold pick
    rw [if_neg (by omega)]
    omega
  rw [hT.1]
  have hT := hT.2
  refine loopW_i (fun y w' => ∃ i : Nat, 2 ≤ i ∧ i ≤ n ∧ y = ((i : Int), ()) ∧ Ext w0 w' ∧ Cnt w' b r size [] (fl n (f1 i))) (fun y => (n - y.1).toNat) ⟨2, by omega, by omega, rfl, he03, hc⟩ ?_
  rintro _ w4 ⟨i, hi2, hi, rfl, he4, hc4⟩
  dsimp only
  refine rdb he4 ?_
  by_cases hlt : i < n
  · refine splitW_t (decide_eq_true (by omega)) ?_
    refine callW_of (take_calls hc4 (.inl ⟨rfl, rfl⟩)) ?_
    rintro _ w5 ⟨rfl, hc5, hg5⟩
    refine ⟨((takeN (fl n (f1 i)) [] : Nat), takeE (fl n (f1 i)) [], ()), rfl, ?_⟩
    rw [takeL_f1 hlt] at hc5
    rw [wrap_i64 (by omega) (by omega)]
    exact ⟨⟨i + 1, by omega, by omega, rfl, hgrow he4 hg5, hc5⟩, by omega⟩
  obtain rfl : i = n := by omega
  refine splitW_f (decide_eq_false (by omega)) ?_
  obtain ⟨n, hnn⟩ : ∃ n, n = i := ⟨_, rfl⟩
  subst hnn
  clear hlt hi2 hi
  have estart : fl n (f1 n) = fl n (g4 m 1) := by
    unfold fl
    refine List.map_congr_left fun j hj => ?_
    have := List.mem_range.1 hj
    simp [f1, g4, this]
  rw [estart] at hc4
  refine callW_of (all_calls hc4) ?_
  rintro _ w5 ⟨⟨A1, n1, c1⟩, rfl, ho1, he5⟩
  refine ⟨(A1, n1, c1), rfl, ?_⟩
  have hc5 := hc4.ext he5
  have hr4 := hc4.row.lt
  refine callW_of (pages_calls hc5 hok8) ?_
  rintro _ w6 ⟨⟨A2, n2, c2⟩, rfl, ho2, he6⟩
  refine ⟨(A2, n2, c2), rfl, ?_⟩
  dsimp only at ho1 ho2 ⊢
  have hc6 := hc5.ext he6
  have ho1 := ho1.ext he6
  have he06 := (he4.trans he5).trans he6
  have hs5 := he5.size
  refine loopW_i (fun y w' => ∃ i : Nat, i ≤ T ∧ y = ((i : Int), ()) ∧ Ext w0 w' ∧ Cnt w' b r size [] (fl n (g4 m (1 + i))) ∧ Owni intE 3 w' w4.heap.size A1 n1 c1 (allL (fl n (g4 m 1))) ∧ Owni strE 9 w' w5.heap.size A2 n2 c2 (pagesL (fl n (g4 m 1)) (perOf size))) (fun y => (T - y.1).toNat) ⟨0, by omega, rfl, he06, hc6, ho1, ho2⟩ ?_
  rintro _ w7 ⟨i, hi, rfl, he7, hc7, ho17, ho27⟩
  dsimp only
  by_cases hlt : i < T
  · refine splitW_t (decide_eq_true (by omega)) ?_
    refine callW_of (add_calls hc7 m (by omega)) ?_
    rintro _ w8 ⟨rfl, hc8, hg8⟩
    obtain ⟨ea, eb⟩ := add_g4 (n := n) (m := m) (x := 1 + i) hm2.1 hm2.2 (by omega) (by omega)
    rw [ea]
    rw [eb] at hc8
    refine ⟨0, rfl, ?_⟩
    refine splitW_f (by rfl) ?_
    rw [wrap_i64 (by omega) (by omega)]
    exact ⟨⟨i + 1, by omega, rfl, hgrow he7 hg8, hc8, ho17.grown hg8 (fun j hj hjj => by injection hj with hj; have := ho17.row j hjj; omega), ho27.grown hg8 (fun j hj hjj => by injection hj with hj; have := ho27.row j hjj; omega)⟩, by omega⟩
  obtain rfl : i = T := by omega
  refine splitW_f (decide_eq_false (by omega)) ?_
  obtain ⟨T, hnn⟩ : ∃ T, T = i := ⟨_, rfl⟩
  subst hnn
  clear hlt hi
  refine callW_of (all_calls hc7) ?_
  rintro _ w8 ⟨⟨A3, n3, c3⟩, rfl, ho3, he8⟩
  refine ⟨(A3, n3, c3), rfl, ?_⟩
  have hc8 := hc7.ext he8
  refine callW_of (pages_calls hc8 hok8) ?_
  rintro _ w9 ⟨⟨A4, n4, c4⟩, rfl, ho4, he9⟩
  refine ⟨(A4, n4, c4), rfl, ?_⟩
  dsimp only at ho3 ho4 ⊢
  have he79 := he8.trans he9
  have he09 := (he0.trans he7).trans he79
  have hn1 : n = n1 := by rw [← ho1.len]; simp [allL, length_fl]
  have hn3 : n = n3 := by rw [← ho3.len]; simp [allL, length_fl]
  have hs1 := (ho17.ext he79).sl
  have hs2 := (ho27.ext he79).sl
  have hs3 := (ho3.ext he9).sl
  have hs4 := ho4.sl
  obtain ⟨per, hper⟩ : ∃ per, per = perOf size := ⟨_, rfl⟩
  obtain ⟨hp1, hp2, _⟩ := perOf_spec hok8
  rw [← hper] at hs2 hs4 hp1 hp2
  have hlen4 : ∀ x, (pagesL (fl n (g4 m x)) per).length = cutsN n per := fun x => by simp [pagesL, length_fl]
  have hn2 : cutsN n per = n2 := by rw [← hs2.len, hlen4]
  have hn4 : cutsN n per = n4 := by rw [← hs4.len, hlen4]
  subst hn1 hn3 hn2 hn4
  clear ho1 ho2 ho3 ho4 ho17 ho27 hc hc4 hc5 hc6 hc7 hc8
  refine splitW_f (by simp) ?_
  refine splitW_f (by simp) ?_
  have hcut1 : cutsN n per = 1 := by
    unfold cutsN
    rw [show n + per - 1 = per + (n - 1) by omega, Nat.add_div_left _ (by omega), Nat.div_eq_of_lt (by omega)]
  refine loopW_i (fun y w' => ∃ i : Nat, i ≤ n ∧ y = ((i : Int), ()) ∧ Ext w9 w') (fun y => (n - y.1).toNat) ⟨0, by omega, rfl, Ext.refl _⟩ ?_
  rintro _ w10 ⟨i, hi, rfl, he10⟩
  dsimp only
  by_cases hlt : i < n
  · refine splitW_t (decide_eq_true (by omega)) ?_
    have he10 := he10.drew
    show (splitW _ _ _) w10.drew
    generalize w10.drew = w11 at he10 ⊢
    have hg1 : (allL (fl n (g4 m 1)))[i]? = some 1 := by
      unfold allL
      rw [List.getElem?_map, List.getElem?_eq_getElem (by rw [length_fl]; exact hlt)]
      simp [fl, g4]
    have hg3 : (allL (fl n (g4 m (1 + T))))[i]? = some ((g4 m (1 + T) i : Nat) : Int) := by
      unfold allL
      rw [List.getElem?_map, List.getElem?_eq_getElem (by rw [length_fl]; exact hlt)]
      simp [fl]
    rw [wrap_u32_nat (by omega), wrap_i64 (x := (i : Int) + 1) (by omega) (by omega), wrap_i64 (x := (T : Int) + 1) (by omega) (by omega)]
    by_cases him : i = m
    · subst him
      refine splitW_t (by simp) ?_
      refine idx_el (hs3.ext he10) (by omega) (x := ((g4 i (1 + T) i : Nat) : Int)) (by rw [Int.toNat_natCast]; exact hg3) rfl ?_
      intro p hp hcell
      refine ld_i (by have := hcell.1; rw [add_zero] at this; exact this) ?_
      refine splitW_f (by unfold g4; rw [if_pos rfl]; simp; omega) ?_
      refine splitW_f (by simp) ?_
      exact ⟨⟨i + 1, by omega, rfl, he10⟩, by omega⟩
    · refine splitW_f (by simp; omega) ?_
      refine splitW_t (by simp; omega) ?_
      refine idx_el (hs3.ext he10) (by omega) (x := ((g4 m (1 + T) i : Nat) : Int)) (by rw [Int.toNat_natCast]; exact hg3) rfl ?_
      intro p hp hcell
      refine ld_i (by have := hcell.1; rw [add_zero] at this; exact this) ?_
      refine idx_el (hs1.ext he10) (by omega) (x := 1) (by rw [Int.toNat_natCast]; exact hg1) rfl ?_
      intro p2 hp2 hcell2
      refine ld_i (by have := hcell2.1; rw [add_zero] at this; exact this) ?_
      refine splitW_f (by unfold g4; rw [if_neg him]; rfl) ?_
      exact ⟨⟨i + 1, by omega, rfl, he10⟩, by omega⟩
  obtain rfl : i = n := by omega
  refine splitW_f (decide_eq_false (by omega)) ?_
  obtain ⟨n, hnn⟩ : ∃ n, n = i := ⟨_, rfl⟩
  subst hnn
  clear hlt hi
  rw [hcut1] at hs2 hs4 ⊢
  have hgp : ∀ x, (pagesL (fl n (g4 m x)) per)[0]? = some ⟨(pageB (fl n (g4 m x)) per 0).toArray⟩ := fun x => pages_get (by rw [length_fl, hcut1]; omega)
  have hpl : ∀ x, (pageB (fl n (g4 m x)) per 0).length = 2 * n := fun x => by rw [pageB_length, length_fl, Nat.zero_mul, Nat.sub_zero, Nat.min_eq_right (by omega)]
  have rd4 : ∀ {w' : World} {K : ByteArray → WP}, Ext w9 w' → K ⟨(pageB (fl n (g4 m (1 + T))) per 0).toArray⟩ w' → (guardW (0 ≤ (0 : Int) ∧ (0 : Int) < ((1 : Nat) : Int)) <| ptrW A4 fun (p : Addr) => ldW .str (p.add (Int.toNat (0 : Int) * 1)) K) w' := fun {w' K} he hk =>
    idx_el (hs4.ext he) (by omega) (hgp (1 + T)) rfl (fun p hp hcell => ld_i (by have := hcell.1; rw [add_zero] at this; exact this) hk)
  have rd2 : ∀ {w' : World} {K : ByteArray → WP}, Ext w9 w' → K ⟨(pageB (fl n (g4 m 1)) per 0).toArray⟩ w' → (guardW (0 ≤ (0 : Int) ∧ (0 : Int) < ((1 : Nat) : Int)) <| ptrW A2 fun (p : Addr) => ldW .str (p.add (Int.toNat (0 : Int) * 1)) K) w' := fun {w' K} he hk =>
    idx_el (hs2.ext he) (by omega) (hgp 1) rfl (fun p hp hcell => ld_i (by have := hcell.1; rw [add_zero] at this; exact this) hk)
  have hsz : ∀ x, (⟨(pageB (fl n (g4 m x)) per 0).toArray⟩ : ByteArray).size = 2 * n := fun x => by rw [B_size, B_mk, hpl]
  have hfin : dif m (1 + T) (2 * n) = (if (1 + T) % 256 ≠ 1 then 1 else 0) + (if (1 + T) / 256 ≠ 0 then 1 else 0) := dif_end (by omega)
  refine loopW_i (fun y w' => Ext w9 w' ∧ (y = (0, 0, ()) ∨ y = ((dif m (1 + T) (2 * n) : Int), 1, ()))) (fun y => (1 - y.2.1).toNat) ⟨he10, .inl rfl⟩ ?_
  rintro _ w11 ⟨he11, rfl | rfl⟩
  · dsimp only
    refine splitW_t (by rfl) ?_
    have he11 := he11.drew
    show (guardW _ _) w11.drew
    generalize w11.drew = w12 at he11 ⊢
    refine rd4 he11 (rd2 he11 ?_)
    rw [hsz, hsz]
    refine splitW_f (by simp) ?_
    refine loopW_i (fun y w' => Ext w9 w' ∧ ∃ k : Nat, k ≤ 2 * n ∧ y = ((dif m (1 + T) k : Int), (k : Int), ())) (fun y => (2 * n - y.2.1).toNat) ⟨he11, 0, by omega, by rw [dif_zero]; rfl⟩ ?_
    rintro _ w13 ⟨he13, k, hk, rfl⟩
    dsimp only
    refine rd4 he13 ?_
    rw [hsz]
    by_cases hlt : k < 2 * n
    · refine splitW_t (decide_eq_true (by omega)) ?_
      have he13 := he13.drew
      show (guardW _ _) w13.drew
      generalize w13.drew = w14 at he13 ⊢
      refine rd4 he13 ?_
      rw [hsz]
      refine guard_i ⟨by omega, by omega⟩ ?_
      refine rd2 he13 ?_
      rw [hsz]
      refine guard_i ⟨by omega, by omega⟩ ?_
      rw [bt_eq (by omega) (by rw [hsz]; omega), bt_eq (by omega) (by rw [hsz]; omega), B_mk, B_mk, Int.toNat_natCast, pageB_getD (by rw [hpl]; exact hlt), pageB_getD (by rw [hpl]; exact hlt), Nat.zero_mul, Nat.zero_add]
      have hby := byte_g4 (n := n) (m := m) (x := 1 + T) (g := k) (by omega) hm2.2 (by omega)
      have hule := dif_le m (1 + T) k
      rw [wrap_i64 (x := ((dif m (1 + T) k : Nat) : Int) + 1) (by omega) (by omega), wrap_i64 (x := (k : Int) + 1) (by omega) (by omega)]
      refine splitW_i (fun h => ⟨⟨he13, k + 1, by omega, ?_⟩, by omega⟩) (fun h => ⟨⟨he13, k + 1, by omega, ?_⟩, by omega⟩)
      · have := dif_up (hby.1 (fun e => by rw [e] at h; simp at h))
        rw [this]
        rfl
      · have : dif m (1 + T) (k + 1) = dif m (1 + T) k := by
          refine Decidable.byContradiction fun hne => ?_
          have h2 := hby.2 hne
          have h3 : UInt8.toNat (UInt8.ofNat ((fl n (g4 m (1 + T))).getD (k / 2) 0 / 256 ^ (k % 2))) = UInt8.toNat (UInt8.ofNat ((fl n (g4 m 1)).getD (k / 2) 0 / 256 ^ (k % 2))) := by
            have := (bne_eq_false_iff_eq.1 h)
            omega
          exact h2 (UInt8.toNat_inj.1 h3)
        rw [this]
        rfl
    · obtain rfl : k = 2 * n := by omega
      refine splitW_f (decide_eq_false (by omega)) ?_
      rw [wrap_i64 (by omega) (by omega)]
      exact ⟨⟨he13, .inr rfl⟩, by omega⟩
  · dsimp only
    refine splitW_f (by rfl) ?_
    have hule := dif_le m (1 + T) (2 * n)
    refine splitW_t (decide_eq_true (by omega)) ⟨?_, he09.trans he11⟩
    congr 1
    rw [hfin, beq_iff_eq]
    by_cases hT0 : T = 0
    · subst hT0; rfl
    · have : ¬ (((if (1 + T) % 256 ≠ 1 then 1 else 0) + (if (1 + T) / 256 ≠ 0 then 1 else 0) : Nat) = 0) := by
        intro h
        have h1 : (1 + T) % 256 = 1 := by
          refine Decidable.byContradiction fun hne => ?_
          rw [if_pos hne] at h
          omega
        have h2 : (1 + T) / 256 = 0 := by
          refine Decidable.byContradiction fun hne => ?_
          rw [if_pos hne] at h
          split at h <;> omega
        omega
      rw [beq_eq_false_iff_ne.2 (by omega), beq_eq_false_iff_ne.2 (by omega)]
end Go.Proofs.Ytmogbadaoaikcaa.V
