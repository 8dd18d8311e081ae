/- Pages of counts, read again: plain. -/
import Derived.Test.YtmogbadaoaikcaaHS
import Derived.Test.YtmogbadaoaikcaaHI
set_option linter.unusedVariables false
set_option linter.unusedSimpArgs false
namespace Go.Proofs.Ytmogbadaoaikcaa.V
open Go

def wB (bs : List UInt8) : List Nat := (List.range (bs.length / 2)).map fun k => lev ((bs.drop (2 * k)).take 2)
theorem wB_length (bs : List UInt8) : (wB bs).length = bs.length / 2 := by simp [wB]
theorem wB_get {bs : List UInt8} {k : Nat} (h : k < bs.length / 2) : (wB bs).getD k 0 = lev ((bs.drop (2 * k)).take 2) := by
  simp [wB, h]
theorem wB_cons (a b : UInt8) (r : List UInt8) : wB (a :: b :: r) = lev [a, b] :: wB r := by
  unfold wB
  have e : (a :: b :: r).length / 2 = r.length / 2 + 1 := by simp only [List.length_cons]; omega
  rw [e, List.range_succ_eq_map, List.map_cons, List.map_map]
  congr 1
theorem wB_le : ∀ bs : List UInt8, bs.length % 2 = 0 → (wB bs).flatMap (le 2) = bs
  | [], _ => rfl
  | [a], h => by simp at h
  | a :: b :: r, h => by
    rw [wB_cons, List.flatMap_cons, wB_le r (by simp only [List.length_cons] at h; omega), show le 2 (lev [a, b]) = [a, b] from le_lev [a, b]]
    rfl
theorem wB_lt (bs : List UInt8) : ∀ x ∈ wB bs, x < 65536 := by
  intro x hx
  obtain ⟨k, _, rfl⟩ := List.mem_map.1 hx
  have h := lev_lt ((bs.drop (2 * k)).take 2)
  have h2 : ((bs.drop (2 * k)).take 2).length ≤ 2 := by simp; omega
  have : 256 ^ ((bs.drop (2 * k)).take 2).length ≤ 256 ^ 2 := Nat.pow_le_pow_right (by omega) h2
  omega
def loadL (ps : List ByteArray) : List Nat := ps.flatMap fun p => wB (B p)
theorem loadL_lt (ps : List ByteArray) : ∀ x ∈ loadL ps, x < 65536 := by
  intro x hx
  obtain ⟨p, _, h⟩ := List.mem_flatMap.1 hx
  exact wB_lt _ x h
def sizes (xs : List ByteArray) : List Nat := xs.map fun s => s.size
/-- Do the pages' sizes fit so many counts? -/
def fitsP (n per : Nat) (ps : List ByteArray) : Prop := sizes ps = (List.range (cutsN n per)).map fun i => 2 * min per (n - i * per)
instance (n per : Nat) (ps : List ByteArray) : Decidable (fitsP n per ps) := inferInstanceAs (Decidable (_ = _))
theorem fitsP_len {n per : Nat} {ps : List ByteArray} (h : fitsP n per ps) : ps.length = cutsN n per := by
  have := congrArg List.length h
  simpa [sizes] using this
theorem fitsP_size {n per i : Nat} {ps : List ByteArray} (h : fitsP n per ps) (hi : i < ps.length) : (B ps[i]).length = 2 * min per (n - i * per) := by
  have h2 := fitsP_len h
  have := congrArg (fun l => l[i]?) h
  simp only [sizes, List.getElem?_map, List.getElem?_eq_getElem hi, Option.map_some, List.getElem?_range (by omega : i < cutsN n per)] at this
  injection this with this
theorem sum_cuts (n per : Nat) : ∀ m, ((List.range m).map fun i => min per (n - i * per)).sum = min n (m * per)
  | 0 => by simp
  | m + 1 => by
    rw [List.range_succ, List.map_append, List.sum_append, sum_cuts n per m, Nat.succ_mul]
    simp only [List.map_cons, List.map_nil, List.sum_cons, List.sum_nil]
    omega
theorem part_length {n per : Nat} {ps : List ByteArray} (h : fitsP n per ps) (i : Nat) (hi : i ≤ ps.length) : (loadL (ps.take i)).length = min n (i * per) := by
  unfold loadL
  rw [List.length_flatMap, ← sum_cuts n per i]
  congr 1
  apply List.ext_getElem
  · simp; omega
  · intro j h1 h2
    have hj : j < ps.length := by simp at h1; omega
    simp only [List.getElem_map, List.getElem_take, List.getElem_range, wB_length, fitsP_size h hj]
    omega
theorem loadL_length {n per : Nat} {ps : List ByteArray} (hp : 1 ≤ per) (h : fitsP n per ps) : (loadL ps).length = n := by
  have := part_length h ps.length (Nat.le_refl _)
  rw [List.take_length] at this
  rw [this, fitsP_len h]
  have := mt (cutsN_lt (n := n) (i := cutsN n per) hp).2 (by omega)
  omega
theorem loadL_split (ps : List ByteArray) {i : Nat} (hi : i < ps.length) : loadL ps = loadL (ps.take i) ++ (wB (B ps[i]) ++ loadL (ps.drop (i + 1))) := by
  unfold loadL
  have e : wB (B ps[i]) ++ (ps.drop (i + 1)).flatMap (fun p => wB (B p)) = (ps.drop i).flatMap (fun p => wB (B p)) := by
    rw [List.drop_eq_getElem_cons hi, List.flatMap_cons]
  rw [e, ← List.flatMap_append, List.take_append_drop]
theorem loadL_get {ps : List ByteArray} {i k : Nat} (hi : i < ps.length) (hk : k < (B ps[i]).length / 2) : (loadL ps).getD ((loadL (ps.take i)).length + k) 0 = lev (((B ps[i]).drop (2 * k)).take 2) := by
  rw [loadL_split ps hi, List.getD_eq_getElem?_getD, List.getElem?_append_right (by omega), Nat.add_sub_cancel_left, List.getElem?_append_left (by rw [wB_length]; exact hk), ← List.getD_eq_getElem?_getD, wB_get hk]
theorem part_succ {ps : List ByteArray} {i : Nat} (hi : i < ps.length) : (loadL (ps.take (i + 1))).length = (loadL (ps.take i)).length + (B ps[i]).length / 2 := by
  rw [List.take_succ_eq_append_getElem hi]
  unfold loadL
  rw [List.flatMap_append, List.length_append]
  simp [wB_length]
/-- So many of the one, then the other. -/
def merge (D N : List Nat) (m : Nat) : List Nat := D.take m ++ N.drop m
theorem merge_length' {D N : List Nat} {m : Nat} (h1 : m ≤ D.length) (h2 : m ≤ N.length) : (merge D N m).length = N.length := by
  simp [merge]; omega
theorem merge_length {D N : List Nat} (h : D.length = N.length) (m : Nat) : (merge D N m).length = N.length := by
  simp [merge]; omega
theorem merge_zero (D N : List Nat) : merge D N 0 = N := by simp [merge]
theorem merge_full {D N : List Nat} (h : D.length = N.length) : merge D N D.length = D := by simp [merge, ← h]
theorem merge_set {D N : List Nat} {m : Nat} (h : m < N.length) (hm : m < D.length) : (merge D N m).set m (D.getD m 0) = merge D N (m + 1) := by
  unfold merge
  rw [List.set_append_right _ _ (by simp; omega), List.take_succ_eq_append_getElem hm, List.append_assoc]
  congr 1
  have : m - (D.take m).length = 0 := by simp; omega
  rw [this, List.drop_eq_getElem_cons (i := m) (by omega), List.set_cons_zero, List.getD_eq_getElem?_getD, List.getElem?_eq_getElem hm]
  rfl
/-! ### Bytes of pages -/
theorem flat2_length : ∀ cs : List Nat, (cs.flatMap (le 2)).length = 2 * cs.length
  | [] => rfl
  | c :: r => by
    rw [List.flatMap_cons, List.length_append, flat2_length r, le_length, List.length_cons]
    omega
theorem pages_back {n per : Nat} {ps : List ByteArray} (hp : 1 ≤ per) (h : fitsP n per ps) : ((List.range (cutsN (loadL ps).length per)).map fun i => (⟨((((loadL ps).drop (i * per)).take per).flatMap (le 2)).toArray⟩ : ByteArray)) = ps := by
  rw [loadL_length hp h]
  have hl := fitsP_len h
  apply List.ext_getElem
  · simp [hl]
  · intro i h1 h2
    rw [List.getElem_map, List.getElem_range]
    apply B_inj
    rw [B_mk]
    have hs := fitsP_size h h2
    have hi : i * per < n := (cutsN_lt hp).1 (by omega)
    have e1 : (loadL ps).drop (i * per) = wB (B ps[i]) ++ loadL (ps.drop (i + 1)) := by
      rw [loadL_split ps h2]
      have := part_length h i (by omega)
      rw [show i * per = (loadL (ps.take i)).length by omega, List.drop_left]
    have e2 : ((loadL ps).drop (i * per)).length = n - i * per := by rw [List.length_drop, loadL_length hp h]
    rw [e1]
    have e3 : (wB (B ps[i]) ++ loadL (ps.drop (i + 1))).take per = wB (B ps[i]) := by
      rw [e1, List.length_append] at e2
      have e4 : (wB (B ps[i])).length = min per (n - i * per) := by rw [wB_length, hs]; omega
      rcases Nat.le_total per (n - i * per) with h5 | h5
      · rw [List.take_left' (by omega)]
      · have : loadL (ps.drop (i + 1)) = [] := List.eq_nil_of_length_eq_zero (by omega)
        rw [this, List.append_nil, List.take_of_length_le (by omega)]
    rw [e3, wB_le _ (by rw [hs]; omega)]
end Go.Proofs.Ytmogbadaoaikcaa.V
