/- Supers: plain. -/
import Derived.Test.YtiiemgndnpflbaaKFrame2
set_option linter.unusedVariables false
set_option linter.unusedSimpArgs false
namespace Go.Proofs.Ytiiemgndnpflbaa.V
open Go Go.Proofs Go.RowKit Crc

/-- A super. -/
structure Sup where
  gen : Nat
  size : Int
  blocks : Int
  root : Nat
  pages : List Nat
deriving DecidableEq
def sup0 : Sup := ⟨0, 0, 0, 0, []⟩
structure Sup.Fits (s : Sup) : Prop where
  gen : s.gen < 18446744073709551616
  size : -9223372036854775808 ≤ s.size ∧ s.size < 9223372036854775808
  blocks : -9223372036854775808 ≤ s.blocks ∧ s.blocks < 9223372036854775808
  root : s.root < 4294967296
  pages : ∀ p ∈ s.pages, p < 4294967296
theorem sup0_fits : sup0.Fits := ⟨by decide, by decide, by decide, by decide, by simp [sup0]⟩
theorem geo_room {size blocks : Int} (h : geoOK size blocks = true) : roomOf size = size - 16 ∧ 128 ≤ size ∧ size ≤ 4096 ∧ 8 ≤ blocks ∧ blocks ≤ 4096 := by
  unfold geoOK at h
  have h := of_decide_eq_true h
  have h8 : geoOK size 8 = true := by unfold geoOK; exact decide_eq_true (by omega)
  unfold roomOf
  rw [h8]
  exact ⟨rfl, by omega, by omega, by omega, by omega⟩
def pagesOf (size blocks : Int) : Int := if geoOK size blocks = true then (2 * blocks + roomOf size - 1) / roomOf size else 0
theorem pagesOf_le {size blocks : Int} : 0 ≤ pagesOf size blocks ∧ pagesOf size blocks ≤ 20000 := by
  unfold pagesOf
  split
  · rename_i h
    obtain ⟨h0, h1, h2, h3, h4⟩ := geo_room h
    rw [h0]
    have := Int.ediv_le_self (a := 2 * blocks + (size - 16) - 1) (size - 16) (by omega)
    have := Int.ediv_nonneg (a := 2 * blocks + (size - 16) - 1) (b := size - 16) (by omega) (by omega)
    omega
  · omega
def pageOK (blocks : Int) (n : Nat) : Bool := decide (2 ≤ n ∧ (n : Int) < blocks)
def Sup.good (s : Sup) (j : Nat) : Prop := pageOK s.blocks (s.pages.getD j 0) = true ∧ s.pages.getD j 0 ≠ s.root ∧ s.pages.getD j 0 ∉ s.pages.take j
instance (s : Sup) (j : Nat) : Decidable (s.good j) := by unfold Sup.good; infer_instance
def Sup.head (s : Sup) : Prop := geoOK s.size s.blocks = true ∧ s.gen ≠ 0 ∧ (s.root = 0 ∨ pageOK s.blocks s.root = true) ∧ (s.pages.length : Int) = pagesOf s.size s.blocks
instance (s : Sup) : Decidable s.head := by unfold Sup.head; infer_instance
def chk (s : Sup) : Int := if s.head then (if ∀ j, j < s.pages.length → s.good j then (if 14 + 4 * (s.pages.length : Int) > roomOf s.size then 3 else 0) else 2) else 2
theorem chk_head {s : Sup} (h : ¬ s.head) : chk s = 2 := by unfold chk; rw [if_neg h]
theorem chk_bad {s : Sup} {j : Nat} (hj : j < s.pages.length) (h : ¬ s.good j) : chk s = 2 := by
  unfold chk
  split
  · rw [if_neg (fun hh => h (hh j hj))]
  · rfl
theorem chk_long {s : Sup} (h : s.head) (hg : ∀ j, j < s.pages.length → s.good j) : chk s = if 14 + 4 * (s.pages.length : Int) > roomOf s.size then 3 else 0 := by
  unfold chk
  rw [if_pos h, if_pos hg]
theorem chk_ok {s : Sup} (h : chk s = 0) : s.head ∧ (∀ j, j < s.pages.length → s.good j) ∧ 14 + 4 * (s.pages.length : Int) ≤ roomOf s.size := by
  unfold chk at h
  split at h
  · rename_i h1
    split at h
    · rename_i h2
      split at h
      · cases h
      · exact ⟨h1, h2, by omega⟩
    · cases h
  · cases h
def wordsB (ps : List Nat) : List UInt8 := ps.flatMap (le 4)
theorem wordsB_length (ps : List Nat) : (wordsB ps).length = 4 * ps.length := by
  induction ps with
  | nil => rfl
  | cons p r ih => simp only [wordsB, List.flatMap_cons, List.length_append, le_length, List.length_cons] at ih ⊢; omega
def headS (s : Sup) : List UInt8 := le 4 s.size.toNat ++ le 4 s.blocks.toNat ++ le 4 s.root ++ le 2 s.pages.length
def dataS (s : Sup) : List UInt8 := headS s ++ wordsB s.pages
theorem headS_length (s : Sup) : (headS s).length = 14 := by simp [headS, le_length]
theorem dataS_length (s : Sup) : (dataS s).length = 14 + 4 * s.pages.length := by rw [dataS, List.length_append, headS_length, wordsB_length]
def fraS (s : Sup) : Fra := (1, s.gen, ⟨(dataS s).toArray⟩)
def putS (s : Sup) : List UInt8 × Int := if chk s = 0 then putR s.size (fraS s) else ([], chk s)
theorem putS_bad {s : Sup} (h : chk s ≠ 0) : putS s = ([], chk s) := if_neg h
theorem putS_good {s : Sup} (h : chk s = 0) : putS s = (putB s.size.toNat (fraS s), 0) := by
  obtain ⟨h1, h2, h3⟩ := chk_ok h
  obtain ⟨g0, g1, g2, g3, g4⟩ := geo_room h1.1
  unfold putS putR
  have hl : ((B (fraS s).2.2).length : Int) = 14 + 4 * s.pages.length := by
    show ((B ⟨(dataS s).toArray⟩).length : Int) = _
    rw [B_mk, dataS_length]
    omega
  rw [if_pos h, if_neg (by omega), if_neg (by omega)]
theorem putS_ok {s : Sup} (h : (putS s).2 = 0) : chk s = 0 := by
  by_cases h1 : chk s = 0
  · exact h1
  · rw [putS_bad h1] at h
    exact h
theorem fraS_data (s : Sup) : B (fraS s).2.2 = dataS s := B_mk _
theorem putS_length {s : Sup} (h : chk s = 0) : ((putS s).1.length : Int) = s.size ∧ 128 ≤ s.size ∧ s.size ≤ 4096 := by
  rw [putS_good h]
  obtain ⟨h1, h2, h3⟩ := chk_ok h
  obtain ⟨g0, g1, g2, g3, g4⟩ := geo_room h1.1
  have := putB_length (size := s.size.toNat) (f := fraS s) (by rw [fraS_data, dataS_length]; omega)
  dsimp only
  omega
theorem putS_kind {s : Sup} (h : chk s = 0) (hg : s.gen < 18446744073709551616) : kindR (putS s).1 1 = (fraS s, 0) := by
  rw [putS_good h]
  obtain ⟨h1, h2, h3⟩ := chk_ok h
  obtain ⟨g0, g1, g2, g3, g4⟩ := geo_room h1.1
  have hget := getR_putB (size := s.size.toNat) (f := fraS s) (by rw [Int.toNat_of_nonneg (by omega)]; exact g0) (by omega) (by omega) (by rw [fraS_data, dataS_length]; omega) hg
  unfold kindR
  rw [hget, if_neg (by rintro ⟨_, h⟩; exact h rfl)]
def wordsOf (n : Nat) (bs : List UInt8) : List Nat := (List.range n).map fun i => lev ((bs.drop (4 * i)).take 4)
theorem wordsOf_length (n : Nat) (bs : List UInt8) : (wordsOf n bs).length = n := by simp [wordsOf]
theorem wordsOf_succ (n : Nat) (bs : List UInt8) : wordsOf (n + 1) bs = wordsOf n bs ++ [lev ((bs.drop (4 * n)).take 4)] := by simp [wordsOf, List.range_succ]
theorem wordsOf_lt (n : Nat) (bs : List UInt8) : ∀ p ∈ wordsOf n bs, p < 4294967296 := by
  intro p hp
  simp only [wordsOf, List.mem_map] at hp
  obtain ⟨i, _, rfl⟩ := hp
  exact lev_lt4 (by rw [List.length_take]; omega)
theorem lev4 {n : Nat} (h : n < 4294967296) : lev (le 4 n) = n := by rw [lev_le]; omega
theorem wordsOf_wordsB : ∀ (ps : List Nat), (∀ p ∈ ps, p < 4294967296) → wordsOf ps.length (wordsB ps) = ps
  | [], _ => rfl
  | p :: r, h => by
    have ih := wordsOf_wordsB r (fun q hq => h q (List.mem_cons_of_mem _ hq))
    have e : wordsB (p :: r) = le 4 p ++ wordsB r := rfl
    unfold wordsOf at ih ⊢
    rw [List.length_cons, List.range_succ_eq_map, List.map_cons, List.map_map, e]
    congr 1
    · rw [Nat.mul_zero, List.drop_zero, List.take_left' (le_length 4 p)]
      exact lev4 (h p List.mem_cons_self)
/-- A frame's super. -/
def decS (f : Fra) : Sup := ⟨f.2.1, lev ((B f.2.2).take 4), lev (((B f.2.2).drop 4).take 4), lev (((B f.2.2).drop 8).take 4), wordsOf (((B f.2.2).length - 14) / 4) ((B f.2.2).drop 14)⟩
theorem dataS_parts (s : Sup) : (dataS s).take 4 = le 4 s.size.toNat ∧ ((dataS s).drop 4).take 4 = le 4 s.blocks.toNat ∧ ((dataS s).drop 8).take 4 = le 4 s.root ∧ ((dataS s).drop 12).take 2 = le 2 s.pages.length ∧ (dataS s).drop 14 = wordsB s.pages := by
  have e : dataS s = le 4 s.size.toNat ++ (le 4 s.blocks.toNat ++ (le 4 s.root ++ (le 2 s.pages.length ++ wordsB s.pages))) := by simp [dataS, headS]
  have d4 : (dataS s).drop 4 = le 4 s.blocks.toNat ++ (le 4 s.root ++ (le 2 s.pages.length ++ wordsB s.pages)) := by rw [e, List.drop_left' (le_length _ _)]
  have d8 : (dataS s).drop 8 = le 4 s.root ++ (le 2 s.pages.length ++ wordsB s.pages) := by rw [show 8 = 4 + 4 from rfl, ← List.drop_drop, d4, List.drop_left' (le_length _ _)]
  have d12 : (dataS s).drop 12 = le 2 s.pages.length ++ wordsB s.pages := by rw [show 12 = 8 + 4 from rfl, ← List.drop_drop, d8, List.drop_left' (le_length _ _)]
  have d14 : (dataS s).drop 14 = wordsB s.pages := by rw [show 14 = 12 + 2 from rfl, ← List.drop_drop, d12, List.drop_left' (le_length _ _)]
  refine ⟨by rw [e, List.take_left' (le_length _ _)], by rw [d4, List.take_left' (le_length _ _)], by rw [d8, List.take_left' (le_length _ _)], by rw [d12, List.take_left' (le_length _ _)], d14⟩
theorem decS_fra {s : Sup} (h : chk s = 0) (hf : s.Fits) : decS (fraS s) = s := by
  obtain ⟨h1, h2, h3⟩ := chk_ok h
  obtain ⟨g0, g1, g2, g3, g4⟩ := geo_room h1.1
  obtain ⟨p1, p2, p3, p4, p5⟩ := dataS_parts s
  unfold decS
  rw [fraS_data, p1, p2, p3, p5, dataS_length, lev4 (by omega), lev4 (by omega), lev4 hf.root, show (14 + 4 * s.pages.length - 14) / 4 = s.pages.length by omega, wordsOf_wordsB _ hf.pages]
  cases s
  simp only [fraS, Sup.mk.injEq, true_and, and_true]
  dsimp only at g1 g3
  omega
theorem decS_fits {f : Fra} (h : f.2.1 < 18446744073709551616) : (decS f).Fits := by
  have a : ∀ l : List UInt8, lev (l.take 4) < 4294967296 := fun l => lev_lt4 (by rw [List.length_take]; omega)
  have a1 := a (B f.2.2)
  have a2 := a ((B f.2.2).drop 4)
  exact ⟨h, by dsimp only [decS]; omega, by dsimp only [decS]; omega, a _, wordsOf_lt _ _⟩
def getS (bs : List UInt8) : Sup × Int :=
  if (kindR bs 1).2 ≠ 0 then (sup0, (kindR bs 1).2)
  else if (B (kindR bs 1).1.2.2).length < 14 then (sup0, 4)
  else if putS (decS (kindR bs 1).1) = (bs, 0) then (decS (kindR bs 1).1, 0) else (sup0, 4)
theorem getS_e {bs : List UInt8} (h : (kindR bs 1).2 ≠ 0) : getS bs = (sup0, (kindR bs 1).2) := if_pos h
theorem getS_4 {bs : List UInt8} (h : (kindR bs 1).2 = 0) (h1 : ∀ s : Sup, s.Fits → putS s = (bs, 0) → False) : getS bs = (sup0, 4) := by
  unfold getS
  rw [if_neg (by simpa using h)]
  split
  · rfl
  · have hg : (kindR bs 1).1.2.1 < 18446744073709551616 := by
      unfold kindR
      split
      · decide
      · exact getR_gen bs
    rw [if_neg (fun e => h1 _ (decS_fits hg) e)]
/-- One that is put so is got. -/
theorem getS_put {s : Sup} {bs : List UInt8} (hf : s.Fits) (h : putS s = (bs, 0)) : getS bs = (s, 0) := by
  have hc := putS_ok (s := s) (by rw [h])
  have hk := putS_kind hc hf.gen
  rw [h] at hk
  dsimp only at hk
  have hl := dataS_length s
  unfold getS
  rw [hk, if_neg (by simp), fraS_data, if_neg (by omega), decS_fra hc hf, if_pos h]
theorem getS_uniq {s : Sup} {bs : List UInt8} (hf : s.Fits) (h : putS s = (bs, 0)) : (kindR bs 1).1 = fraS s := by
  have hc := putS_ok (s := s) (by rw [h])
  have hk := putS_kind hc hf.gen
  rw [h] at hk
  exact congrArg Prod.fst hk
theorem getS_ok {bs : List UInt8} (h : (getS bs).2 = 0) : putS (getS bs).1 = (bs, 0) ∧ (getS bs).1.Fits := by
  unfold getS at h ⊢
  split at h
  · rename_i h1; exact absurd h h1
  · rename_i h1
    rw [if_neg h1]
    split at h
    · cases h
    · rename_i h2
      rw [if_neg h2]
      split at h
      · rename_i h3
        rw [if_pos h3]
        refine ⟨h3, decS_fits ?_⟩
        unfold kindR
        split
        · decide
        · exact getR_gen bs
      · cases h
theorem getS_bad {bs : List UInt8} (h : (getS bs).2 ≠ 0) : (getS bs).1 = sup0 := by
  unfold getS at h ⊢
  split
  · rfl
  · rename_i h1
    rw [if_neg h1] at h
    split
    · rfl
    · rename_i h2
      rw [if_neg h2] at h
      split
      · rename_i h3; rw [if_pos h3] at h; exact absurd rfl h
      · rfl
theorem getS_fits (bs : List UInt8) : (getS bs).1.Fits := by
  by_cases h : (getS bs).2 = 0
  · exact (getS_ok h).2
  · rw [getS_bad h]; exact sup0_fits
def chooseS (a b : List UInt8) : Int × Sup × Int :=
  if (getS a).2 ≠ 0 ∧ (getS b).2 ≠ 0 then (-1, sup0, 10)
  else if (getS a).2 ≠ 0 ∨ ((getS b).2 = 0 ∧ (getS b).1.gen > (getS a).1.gen) then (1, (getS b).1, 0)
  else (0, (getS a).1, 0)
def other (slot : Int) : Int := if slot = 0 then 1 else 0
end Go.Proofs.Ytiiemgndnpflbaa.V
