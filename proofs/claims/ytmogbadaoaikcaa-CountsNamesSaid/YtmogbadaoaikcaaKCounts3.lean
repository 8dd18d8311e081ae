/- Contracts of counts.Load and of the reference's counts. -/
import Derived.Test.YtmogbadaoaikcaaKCounts2
import Derived.Test.YtmogbadaoaikcaaHW
set_option linter.unusedVariables false
set_option linter.unusedSimpArgs false
namespace Go.Proofs.Ytmogbadaoaikcaa.V
open Go Go.Proofs Go.RowKit

theorem tdiv2 (a b : Nat) : Int.tdiv (a : Int) (b : Int) = ((a / b : Nat) : Int) := rfl
theorem room_per {size : Int} (hs : geoOK size 8 = true) : roomOf size = ((2 * perOf size : Nat) : Int) := by
  unfold perOf roomOf
  rw [if_pos hs]
  unfold geoOK at hs
  have hs := of_decide_eq_true hs
  have e : Int.tdiv (size - 16) 2 = (size - 16) / 2 := Int.tdiv_eq_ediv_of_nonneg (by omega)
  have e2 : Int.tmod size 64 = size % 64 := Int.tmod_eq_emod_of_nonneg (by omega)
  rw [e]
  omega
theorem geo8 {size blocks : Int} (h : geoOK size blocks = true) : geoOK size 8 = true ∧ ∃ n : Nat, blocks = n ∧ 8 ≤ n ∧ n ≤ 4096 := by
  unfold geoOK at h ⊢
  have h := of_decide_eq_true h
  exact ⟨decide_eq_true (by omega), blocks.toNat, by omega⟩
/-- How many pages of counts. -/
def spages (size blocks : Int) : Int := if geoOK size blocks then ((cutsN blocks.toNat (perOf size) : Nat) : Int) else 0
theorem spages_calls (w : World) (size blocks : Int) : Calls Try.prog 34 #[.agg #[.int .i64 size, .int .i64 blocks]] w (Ret fun v w' => v = .int .i64 (spages size blocks) ∧ Ext w w') := by
  apply calls34
  unfold S34 spages
  apply newW_i
  have hb : Blk (w.alloc (.cells #[(.int .i64 size), (.int .i64 blocks)] 23)) w.heap.size [(.int .i64 size), (.int .i64 blocks)] 23 := Blk.new w _ _
  have he : Ext w (w.alloc (.cells #[(.int .i64 size), (.int .i64 blocks)] 23)) := (Ext.refl w).alloc _
  generalize w.alloc (.cells #[(.int .i64 size), (.int .i64 blocks)] 23) = w1 at hb he ⊢
  refine ldA_blk (ls := [(.int .i64), (.int .i64)]) (x := (size, blocks, ())) hb rfl ?_
  refine callW_of (devcheck_calls w1 size blocks) ?_
  rintro _ w2 ⟨rfl, he2⟩
  refine ⟨_, rfl, ?_⟩
  have he02 := he.trans he2
  have hb2 := hb.ext he2
  cases hok : geoOK size blocks with
  | false => rw [if_neg (by simp), if_neg (by simp)]; exact splitW_t (by rfl) ⟨rfl, he02⟩
  | true =>
    rw [if_pos rfl, if_pos rfl]
    refine splitW_f (by rfl) ?_
    obtain ⟨h8, n, rfl, hn1, hn2⟩ := geo8 hok
    refine ldW_blk (x := size) hb2 (by rfl) ?_
    refine callW_of (room_calls w2 size) ?_
    rintro _ w3 ⟨rfl, he3⟩
    refine ⟨_, rfl, ?_⟩
    refine ld_blk (o := 1) (x := (n : Int)) (hb2.ext he3) (by rfl) ?_
    obtain ⟨hp1, hp2, _⟩ := perOf_spec h8
    rw [room_per h8, Int.toNat_natCast]
    generalize perOf size = per at hp1 hp2 ⊢
    refine guard_i (by omega) ⟨?_, he02.trans he3⟩
    rw [wrap_i64 (x := (2 : Int) * (n : Int)) (by omega) (by omega), wrap_i64 (x := (2 : Int) * (n : Int) + ((2 * per : Nat) : Int)) (by omega) (by omega), wrap_i64 (x := (2 : Int) * (n : Int) + ((2 * per : Nat) : Int) - 1) (by omega) (by omega)]
    rw [show (2 : Int) * (n : Int) + ((2 * per : Nat) : Int) - 1 = ((2 * n + 2 * per - 1 : Nat) : Int) by omega, tdiv2]
    have e : (2 * n + 2 * per - 1) / (2 * per) = cutsN n per := by
      unfold cutsN
      rw [← Nat.div_div_eq_div_mul]
      congr 1
      omega
    rw [e]
    have : cutsN n per ≤ n := by
      unfold cutsN
      rw [Nat.div_le_iff_le_mul_add_pred (by omega)]
      have : 1 * n ≤ per * n := Nat.mul_le_mul_right _ (by omega)
      omega
    rw [wrap_i64 (by omega) (by omega)]
theorem refcheck_calls (w : World) (size blocks : Int) : Calls Try.prog 40 #[.agg #[.int .i64 size, .int .i64 blocks]] w (Ret fun v w' => v = .int .i64 (if geoOK size blocks then 0 else 2) ∧ Ext w w') := by
  apply calls40
  unfold S40
  apply newW_i
  have hb : Blk (w.alloc (.cells #[(.int .i64 size), (.int .i64 blocks)] 23)) w.heap.size [(.int .i64 size), (.int .i64 blocks)] 23 := Blk.new w _ _
  have he : Ext w (w.alloc (.cells #[(.int .i64 size), (.int .i64 blocks)] 23)) := (Ext.refl w).alloc _
  generalize w.alloc (.cells #[(.int .i64 size), (.int .i64 blocks)] 23) = w1 at hb he ⊢
  have hno : ¬ (128 ≤ size ∧ size ≤ 4096 ∧ Int.tmod size 64 = 0 ∧ 8 ≤ blocks ∧ blocks ≤ 4096) → (if geoOK size blocks then (0 : Int) else 2) = 2 := fun hp => by
    unfold geoOK
    rw [if_neg (by simpa only [decide_eq_true_eq] using hp)]
  refine ldW_blk hb (by rfl) ?_
  refine splitW_i (fun h => ?_) (fun h1 => ?_)
  · have h := of_decide_eq_true h
    exact ⟨by rw [hno (by omega)], he⟩
  refine ldW_blk hb (by rfl) ?_
  refine splitW_i (fun h => ?_) (fun h2 => ?_)
  · have h := of_decide_eq_true h
    exact ⟨by rw [hno (by omega)], he⟩
  refine ldW_blk hb (by rfl) ?_
  refine splitW_i (fun h => ?_) (fun h3 => ?_)
  · have h := bne_iff_ne.1 h
    exact ⟨by rw [hno (by omega)], he⟩
  refine ld_blk (o := 1) hb (by rfl) ?_
  refine splitW_i (fun h => ?_) (fun h4 => ?_)
  · have h := of_decide_eq_true h
    exact ⟨by rw [hno (by omega)], he⟩
  refine ld_blk (o := 1) hb (by rfl) ?_
  refine splitW_i (fun h => ?_) (fun h5 => ?_)
  · have h := of_decide_eq_true h
    exact ⟨by rw [hno (by omega)], he⟩
  have h1 := of_decide_eq_false h1
  have h2 := of_decide_eq_false h2
  have h3 := bne_eq_false_iff_eq.1 h3
  have h4 := of_decide_eq_false h4
  have h5 := of_decide_eq_false h5
  refine ⟨?_, he⟩
  unfold geoOK
  rw [if_pos (decide_eq_true (by omega))]
theorem refroom_calls (w : World) (size : Int) : Calls Try.prog 41 #[.int .i64 size] w (Ret fun v w' => v = .int .i64 (roomOf size) ∧ Ext w w') := by
  apply calls41
  unfold S41 roomOf
  refine callW_of (refcheck_calls w size 8) ?_
  rintro _ w1 ⟨rfl, he⟩
  refine ⟨_, rfl, ?_⟩
  cases hok : geoOK size 8 with
  | false => exact splitW_t (by rfl) ⟨rfl, he⟩
  | true =>
    refine splitW_f (by rfl) ⟨?_, he⟩
    unfold geoOK at hok
    have hok := of_decide_eq_true hok
    rw [wrap_i64 (x := size - 16) (by omega) (by omega), if_pos rfl]
theorem refspages_calls (w : World) (size blocks : Int) : Calls Try.prog 25 #[.agg #[.int .i64 size, .int .i64 blocks]] w (Ret fun v w' => v = .int .i64 (spages size blocks) ∧ Ext w w') := by
  apply calls25
  unfold S25 spages
  apply newW_i
  have hb : Blk (w.alloc (.cells #[(.int .i64 size), (.int .i64 blocks)] 23)) w.heap.size [(.int .i64 size), (.int .i64 blocks)] 23 := Blk.new w _ _
  have he : Ext w (w.alloc (.cells #[(.int .i64 size), (.int .i64 blocks)] 23)) := (Ext.refl w).alloc _
  generalize w.alloc (.cells #[(.int .i64 size), (.int .i64 blocks)] 23) = w1 at hb he ⊢
  refine ldA_blk (ls := [(.int .i64), (.int .i64)]) (x := (size, blocks, ())) hb rfl ?_
  refine callW_of (refcheck_calls w1 size blocks) ?_
  rintro _ w2 ⟨rfl, he2⟩
  refine ⟨_, rfl, ?_⟩
  have he02 := he.trans he2
  have hb2 := hb.ext he2
  cases hok : geoOK size blocks with
  | false => rw [if_neg (by simp), if_neg (by simp)]; exact splitW_t (by rfl) ⟨rfl, he02⟩
  | true =>
    rw [if_pos rfl, if_pos rfl]
    refine splitW_f (by rfl) ?_
    obtain ⟨h8, n, rfl, hn1, hn2⟩ := geo8 hok
    refine ldW_blk (x := size) hb2 (by rfl) ?_
    refine callW_of (refroom_calls w2 size) ?_
    rintro _ w3 ⟨rfl, he3⟩
    refine ⟨_, rfl, ?_⟩
    refine ld_blk (o := 1) (x := (n : Int)) (hb2.ext he3) (by rfl) ?_
    obtain ⟨hp1, hp2, _⟩ := perOf_spec h8
    rw [room_per h8, Int.toNat_natCast]
    generalize perOf size = per at hp1 hp2 ⊢
    refine guard_i (by omega) ⟨?_, he02.trans he3⟩
    rw [wrap_i64 (x := (2 : Int) * (n : Int)) (by omega) (by omega), wrap_i64 (x := (2 : Int) * (n : Int) + ((2 * per : Nat) : Int)) (by omega) (by omega), wrap_i64 (x := (2 : Int) * (n : Int) + ((2 * per : Nat) : Int) - 1) (by omega) (by omega)]
    rw [show (2 : Int) * (n : Int) + ((2 * per : Nat) : Int) - 1 = ((2 * n + 2 * per - 1 : Nat) : Int) by omega, tdiv2]
    have e : (2 * n + 2 * per - 1) / (2 * per) = cutsN n per := by
      unfold cutsN
      rw [← Nat.div_div_eq_div_mul]
      congr 1
      omega
    rw [e]
    have : cutsN n per ≤ n := by
      unfold cutsN
      rw [Nat.div_le_iff_le_mul_add_pred (by omega)]
      have : 1 * n ≤ per * n := Nat.mul_le_mul_right _ (by omega)
      omega
    rw [wrap_i64 (by omega) (by omega)]
theorem sizes_get {xs : List ByteArray} {i : Nat} (h : i < xs.length) : (sizes xs)[i]? = some (xs.getD i ByteArray.empty).size := by
  simp [sizes, h]
theorem eqfunc_calls {w : World} {A A2 : Option Addr} {n c n2 c2 : Nat} {xs ys : List ByteArray} (h : Sli strE w A n xs) (h2 : Sli strE w A2 n2 ys) : Calls Try.prog 35 #[.slice A n c, .slice A2 n2 c2, .func (.func 33) #[] #[]] w (Ret fun v w' => v = .bool (decide (sizes xs = sizes ys)) ∧ w' = w) := by
  apply calls35
  unfold S35
  have hl := h.len
  have hl2 := h2.len
  have hle := h.2.1
  have hsl : ∀ l : List ByteArray, (sizes l).length = l.length := fun l => by simp [sizes]
  refine splitW_i (fun hne => ⟨?_, rfl⟩) (fun he => ?_)
  · have hne := bne_iff_ne.1 hne
    congr 1
    symm
    rw [decide_eq_false_iff_not]
    intro e
    have := congrArg List.length e
    rw [hsl, hsl] at this
    omega
  have he := bne_eq_false_iff_eq.1 he
  obtain rfl : n = n2 := by omega
  refine loopW_i (fun y w' => w' = w ∧ ∃ i : Nat, i ≤ n ∧ y = ((i : Int), ()) ∧ ∀ j, j < i → (sizes xs)[j]? = (sizes ys)[j]?) (fun y => (n - y.1).toNat) ⟨rfl, 0, by omega, rfl, fun j hj => by omega⟩ ?_
  rintro _ w1 ⟨hw, i, hi, rfl, hall⟩
  subst hw
  dsimp only
  by_cases hlt : i < n
  · refine splitW_t (decide_eq_true (by omega)) ?_
    refine idx_str h (by omega) (by omega) ?_
    refine idx_str h2 (by omega) (by omega) ?_
    rw [Int.toNat_natCast]
    refine callVW_fn (by kernel_rfl) ?_
    refine callW_of (calls33 (xs.getD i ByteArray.empty) (ys.getD i ByteArray.empty) (K := fun v w' => v = .bool ((((xs.getD i ByteArray.empty).size : Nat) : Int) == (((ys.getD i ByteArray.empty).size : Nat) : Int)) ∧ w' = w1) (by unfold S33; exact ⟨rfl, rfl⟩)) ?_
    rintro _ _ ⟨rfl, hw⟩
    subst hw
    refine ⟨_, rfl, ?_⟩
    rw [wrap_i64 (by omega) (by omega)]
    refine splitW_i (fun hn => ⟨?_, rfl⟩) (fun hn => ?_)
    · congr 1
      symm
      rw [decide_eq_false_iff_not]
      intro e
      have := congrArg (fun l => l[i]?) e
      rw [sizes_get (by omega), sizes_get (by omega)] at this
      injection this with this
      rw [this] at hn
      simp at hn
    · refine ⟨⟨rfl, i + 1, by omega, rfl, fun j hj => ?_⟩, by omega⟩
      by_cases hji : j = i
      · subst hji
        rw [sizes_get (by omega), sizes_get (by omega)]
        have : ((((xs.getD j ByteArray.empty).size : Nat) : Int) == (((ys.getD j ByteArray.empty).size : Nat) : Int)) = true := by simpa using hn
        have := beq_iff_eq.1 this
        congr 1
        omega
      · exact hall j (by omega)
  · obtain rfl : i = n := by omega
    refine splitW_f (decide_eq_false (by omega)) ⟨?_, rfl⟩
    congr 1
    symm
    rw [decide_eq_true_iff]
    apply List.ext_getElem?
    intro j
    rcases Nat.lt_or_ge j i with hj | hj
    · exact hall j hj
    · rw [List.getElem?_eq_none (by rw [hsl]; omega), List.getElem?_eq_none (by rw [hsl]; omega)]
theorem idx_int {w : World} {A : Option Addr} {n : Nat} {xs : List Int} {i : Int} {K : Int → WP} (h : Sli intE w A n xs) (h0 : 0 ≤ i) (h1 : i < (n : Int)) (hK : K (xs.getD i.toNat 0) w) :
    (guardW (0 ≤ i ∧ i < ((n : Nat) : Int)) <| ptrW A fun p => ldW (.int .i64) (p.add (Int.toNat i * 1)) K) w := by
  have hi : i.toNat < xs.length := by have := h.1; omega
  refine idx_el h h0 (x := xs.getD i.toNat 0) (by simp [hi]) rfl ?_
  intro p hp hcell
  exact ld_i (by have := hcell.1; rw [add_zero] at this; exact this) hK
theorem sameint_calls {w : World} {A A2 : Option Addr} {n c n2 c2 : Nat} {xs ys : List Int} (h : Sli intE w A n xs) (h2 : Sli intE w A2 n2 ys) : Calls Try.prog 23 #[.slice A n c, .slice A2 n2 c2] w (Ret fun v w' => v = .bool (decide (xs = ys)) ∧ Ext w w') := by
  apply calls23
  unfold S23
  have hl := h.len
  have hl2 := h2.len
  have hle := h.2.1
  refine splitW_i (fun hne => ⟨?_, Ext.refl _⟩) (fun he => ?_)
  · have hne := bne_iff_ne.1 hne
    congr 1
    symm
    rw [decide_eq_false_iff_not]
    intro e
    have := congrArg List.length e
    omega
  have he := bne_eq_false_iff_eq.1 he
  obtain rfl : n = n2 := by omega
  refine loopW_i (fun y w' => Ext w w' ∧ ∃ i : Nat, i ≤ n ∧ y = ((i : Int), ()) ∧ ∀ j, j < i → xs.getD j 0 = ys.getD j 0) (fun y => (n - y.1).toNat) ⟨Ext.refl _, 0, by omega, rfl, fun j hj => by omega⟩ ?_
  rintro _ w1 ⟨hw1, i, hi, rfl, hall⟩
  dsimp only
  by_cases hlt : i < n
  · refine splitW_t (decide_eq_true (by omega)) ?_
    have hw1 := hw1.drew
    show (guardW _ _) w1.drew
    generalize w1.drew = w2 at hw1 ⊢
    refine idx_int (h.ext hw1) (by omega) (by omega) ?_
    refine idx_int (h2.ext hw1) (by omega) (by omega) ?_
    rw [Int.toNat_natCast, wrap_i64 (by omega) (by omega)]
    refine splitW_i (fun hn => ⟨?_, hw1⟩) (fun hn => ?_)
    · congr 1
      symm
      rw [decide_eq_false_iff_not]
      rintro rfl
      simp at hn
    · refine ⟨⟨hw1, i + 1, by omega, rfl, fun j hj => ?_⟩, by omega⟩
      by_cases hji : j = i
      · subst hji
        simpa using hn
      · exact hall j (by omega)
  · obtain rfl : i = n := by omega
    refine splitW_f (decide_eq_false (by omega)) ⟨?_, hw1⟩
    congr 1
    symm
    rw [decide_eq_true_iff]
    apply List.ext_getElem (by omega)
    intro j hj hj2
    have := hall j (by omega)
    rw [List.getD_eq_getElem?_getD, List.getD_eq_getElem?_getD, List.getElem?_eq_getElem hj, List.getElem?_eq_getElem hj2] at this
    simpa using this
theorem samestr_calls {w : World} {A A2 : Option Addr} {n c n2 c2 : Nat} {xs ys : List ByteArray} (h : Sli strE w A n xs) (h2 : Sli strE w A2 n2 ys) : Calls Try.prog 24 #[.slice A n c, .slice A2 n2 c2] w (Ret fun v w' => v = .bool (decide (xs = ys)) ∧ Ext w w') := by
  apply calls24
  unfold S24
  have hl := h.len
  have hl2 := h2.len
  have hle := h.2.1
  refine splitW_i (fun hne => ⟨?_, Ext.refl _⟩) (fun he => ?_)
  · have hne := bne_iff_ne.1 hne
    congr 1
    symm
    rw [decide_eq_false_iff_not]
    intro e
    have := congrArg List.length e
    omega
  have he := bne_eq_false_iff_eq.1 he
  obtain rfl : n = n2 := by omega
  refine loopW_i (fun y w' => Ext w w' ∧ ∃ i : Nat, i ≤ n ∧ y = ((i : Int), ()) ∧ ∀ j, j < i → xs.getD j ByteArray.empty = ys.getD j ByteArray.empty) (fun y => (n - y.1).toNat) ⟨Ext.refl _, 0, by omega, rfl, fun j hj => by omega⟩ ?_
  rintro _ w1 ⟨hw1, i, hi, rfl, hall⟩
  dsimp only
  by_cases hlt : i < n
  · refine splitW_t (decide_eq_true (by omega)) ?_
    have hw1 := hw1.drew
    show (guardW _ _) w1.drew
    generalize w1.drew = w2 at hw1 ⊢
    refine idx_str (h.ext hw1) (by omega) (by omega) ?_
    refine idx_str (h2.ext hw1) (by omega) (by omega) ?_
    rw [Int.toNat_natCast, wrap_i64 (by omega) (by omega)]
    refine splitW_i (fun hn => ⟨?_, hw1⟩) (fun hn => ?_)
    · congr 1
      symm
      rw [decide_eq_false_iff_not]
      rintro rfl
      simp at hn
    · refine ⟨⟨hw1, i + 1, by omega, rfl, fun j hj => ?_⟩, by omega⟩
      by_cases hji : j = i
      · subst hji
        have hn2 : ((xs.getD j ByteArray.empty).toList == (ys.getD j ByteArray.empty).toList) = true := by simpa using hn
        rw [str_beq] at hn2
        exact B_inj (of_decide_eq_true hn2)
      · exact hall j (by omega)
  · obtain rfl : i = n := by omega
    refine splitW_f (decide_eq_false (by omega)) ⟨?_, hw1⟩
    congr 1
    symm
    rw [decide_eq_true_iff]
    apply List.ext_getElem (by omega)
    intro j hj hj2
    have := hall j (by omega)
    rw [List.getD_eq_getElem?_getD, List.getD_eq_getElem?_getD, List.getElem?_eq_getElem hj, List.getElem?_eq_getElem hj2] at this
    simpa using this
theorem lighttexts_calls {w : World} {A : Option Addr} {n c : Nat} {xs : List ByteArray} {m b : Int} (h : Sli strE w A n xs) : Calls Try.prog 20 #[.slice A n c, .int .i64 m, .int .i64 b] w (Ret fun v w' => (∃ q : Bool, v = .bool q ∧ (q = true → (n : Int) ≤ m)) ∧ w' = w) := by
  apply calls20
  unfold S20
  have hle := h.2.1
  refine splitW_i (fun _ => ⟨⟨false, rfl, fun e => by cases e⟩, rfl⟩) (fun hm => ?_)
  have hm := of_decide_eq_false hm
  refine loopW_i (fun y w' => w' = w ∧ ∃ (s : Int) (i : Nat), i ≤ n ∧ y = (s, (i : Int), ())) (fun y => (n - y.2.1).toNat) ⟨rfl, 0, 0, by omega, rfl⟩ ?_
  rintro _ _ ⟨rfl, s, i, hi, rfl⟩
  dsimp only
  by_cases hlt : i < n
  · refine splitW_t (decide_eq_true (by omega)) ?_
    refine idx_str h (by omega) (by omega) ?_
    rw [wrap_i64 (x := (i : Int) + 1) (by omega) (by omega)]
    exact splitW_i (fun _ => ⟨⟨false, rfl, fun e => by cases e⟩, rfl⟩) (fun _ => ⟨⟨rfl, _, i + 1, by omega, rfl⟩, by omega⟩)
  · exact splitW_f (decide_eq_false (by omega)) ⟨⟨true, rfl, fun _ => by omega⟩, rfl⟩
def usedN (l : List Nat) : Nat := (l.filter fun n => decide (0 < n)).length
theorem used_calls {w : World} {b r : Nat} {size : Int} {q : List Value} {l : List Nat} (h : Cnt w b r size q l) : Calls Try.prog 26 #[.pointer (some ⟨b, 0, none⟩)] w (Ret fun v w' => v = .int .i64 (usedN l : Int) ∧ w' = w) := by
  apply calls26
  unfold S26
  have hl := h.len
  refine splitW_f (by rfl) (ptr_i ?_)
  refine ld_blk (o := 2) (x := (some ⟨r, 0, none⟩, l.length, l.length + q.length)) h.head (by rfl) ?_
  dsimp only
  refine loopW_i (fun y w' => w' = w ∧ ∃ i : Nat, i ≤ l.length ∧ y = ((usedN (l.take i) : Int), (i : Int), ())) (fun y => (l.length - y.2.1).toNat) ⟨rfl, 0, by omega, rfl⟩ ?_
  rintro _ _ ⟨rfl, i, hi, rfl⟩
  dsimp only
  have hu : usedN (l.take i) ≤ i := by
    unfold usedN
    have := List.length_filter_le (fun n => decide (0 < n)) (l.take i)
    rw [List.length_take] at this
    omega
  by_cases hlt : i < l.length
  · refine splitW_t (decide_eq_true (by omega)) ?_
    refine guard_i ⟨by omega, by omega⟩ (ptr_i ?_)
    rw [Int.toNat_natCast, Nat.mul_one]
    refine ld_blk h.row (uVq_get (by omega)) ?_
    have hg : l.getD i 0 = l[i] := by simp [hlt]
    have e : usedN (l.take (i + 1)) = usedN (l.take i) + (if 0 < l[i] then 1 else 0) := by
      unfold usedN
      rw [List.take_succ_eq_append_getElem hlt, List.filter_append, List.length_append]
      by_cases h0 : 0 < l[i] <;> simp [h0]
    rw [hg, wrap_i64 (by omega) (by omega), wrap_i64 (x := (i : Int) + 1) (by omega) (by omega)]
    refine splitW_i (fun h0 => ?_) (fun h0 => ?_)
    · have h0 := of_decide_eq_true h0
      rw [if_pos (by omega)] at e
      exact ⟨⟨rfl, i + 1, by omega, by rw [e]; rfl⟩, by omega⟩
    · have h0 := of_decide_eq_false h0
      rw [if_neg (by omega)] at e
      exact ⟨⟨rfl, i + 1, by omega, by rw [e]; rfl⟩, by omega⟩
  · obtain rfl : i = l.length := by omega
    rw [List.take_length]
    exact splitW_f (decide_eq_false (by omega)) ⟨rfl, rfl⟩
theorem usednil_calls (w : World) : Calls Try.prog 26 #[.pointer none] w (Ret fun v w' => v = .int .i64 0 ∧ w' = w) := by
  apply calls26
  unfold S26
  exact splitW_t (by rfl) ⟨rfl, rfl⟩
end Go.Proofs.Ytmogbadaoaikcaa.V
