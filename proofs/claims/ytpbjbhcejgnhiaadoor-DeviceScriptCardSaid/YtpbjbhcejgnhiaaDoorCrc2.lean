/- Bits turned within bytes, and what a check tells of them. It speaks of no program. -/
import Derived.Test.YtpbjbhcejgnhiaaDoorCrc
import Derived.Test.YtpbjbhcejgnhiaaDoorNum2
set_option linter.unusedVariables false
set_option linter.unusedSimpArgs false
namespace Go.Proofs.YtpbjbhcejgnhiaaDoor.Crc
open Go.Proofs.YtpbjbhcejgnhiaaDoor.V (le lev le_length lev_le le_lev lev_lt le_succ)

def ob (f : Nat → Bool) : BitVec 8 := BitVec.ofNat 8 ((f 0).toNat + 2 * (f 1).toNat + 4 * (f 2).toNat + 8 * (f 3).toNat + 16 * (f 4).toNat + 32 * (f 5).toNat + 64 * (f 6).toNat + 128 * (f 7).toNat)
theorem ob8 : ∀ b0 b1 b2 b3 b4 b5 b6 b7 : Bool, let v := BitVec.ofNat 8 (b0.toNat + 2 * b1.toNat + 4 * b2.toNat + 8 * b3.toNat + 16 * b4.toNat + 32 * b5.toNat + 64 * b6.toNat + 128 * b7.toNat)
    v.getLsbD 0 = b0 ∧ v.getLsbD 1 = b1 ∧ v.getLsbD 2 = b2 ∧ v.getLsbD 3 = b3 ∧ v.getLsbD 4 = b4 ∧ v.getLsbD 5 = b5 ∧ v.getLsbD 6 = b6 ∧ v.getLsbD 7 = b7 := by decide
theorem get_ob (f : Nat → Bool) {j : Nat} (h : j < 8) : (ob f).getLsbD j = f j := by
  obtain ⟨h0, h1, h2, h3, h4, h5, h6, h7⟩ := ob8 (f 0) (f 1) (f 2) (f 3) (f 4) (f 5) (f 6) (f 7)
  match j, h with
  | 0, _ => exact h0
  | 1, _ => exact h1
  | 2, _ => exact h2
  | 3, _ => exact h3
  | 4, _ => exact h4
  | 5, _ => exact h5
  | 6, _ => exact h6
  | 7, _ => exact h7
attribute [irreducible] ob
theorem bv8_ext {a b : BitVec 8} (h : ∀ j, j < 8 → a.getLsbD j = b.getLsbD j) : a = b := BitVec.eq_of_getLsbD_eq (fun i hi => h i hi)
theorem shl_bit : ∀ r : Fin 8, ∀ j : Fin 8, ∀ m : Bool, (BitVec.ofNat 8 m.toNat <<< r.val).getLsbD j.val = (m && decide (j = r)) := by decide
/-- The bit that is turned at place p. -/
def fbit (bit n : Nat) (m : W32) (p : Nat) : Bool := decide (bit ≤ p ∧ p < bit + n) && m.getLsbD (p - bit)
def fbyte (bit n : Nat) (m : W32) (at' : Nat) : UInt8 := ⟨ob fun j => fbit bit n m (8 * at' + j)⟩
theorem get_fbyte (bit n : Nat) (m : W32) (at' : Nat) {j : Nat} (h : j < 8) : (fbyte bit n m at').toBitVec.getLsbD j = fbit bit n m (8 * at' + j) := get_ob _ h
def flipd (len bit n : Nat) (m : W32) : List UInt8 := (List.range len).map (fbyte bit n m)
def flip (bs : List UInt8) (bit n : Nat) (m : W32) : List UInt8 := xors bs (flipd bs.length bit n m)
theorem length_flipd (len bit n : Nat) (m : W32) : (flipd len bit n m).length = len := by simp [flipd]
theorem length_xors (a b : List UInt8) : (xors a b).length = min a.length b.length := by simp [xors]
theorem length_flip (bs : List UInt8) (bit n : Nat) (m : W32) : (flip bs bit n m).length = bs.length := by simp [flip, length_xors, length_flipd]
theorem fbyte_zero (bit : Nat) (m : W32) (at' : Nat) : fbyte bit 0 m at' = 0 := by
  apply UInt8.eq_of_toBitVec_eq
  apply bv8_ext
  intro j hj
  rw [get_fbyte _ _ _ _ hj]
  have : fbit bit 0 m (8 * at' + j) = false := by
    unfold fbit
    rw [decide_eq_false (by omega), Bool.false_and]
  rw [this]
  simp
theorem getD_set (l : List UInt8) (k i : Nat) (x : UInt8) : (l.set k x).getD i 0 = if k = i ∧ k < l.length then x else l.getD i 0 := by
  simp only [List.getD_eq_getElem?_getD, List.getElem?_set]
  by_cases h : k = i
  · subst h
    by_cases h2 : k < l.length
    · simp [h2]
    · simp [h2, List.getElem?_eq_none (Nat.not_lt.1 h2)]
  · simp [h]
theorem u8_xor_zero (b : UInt8) : b ^^^ 0 = b := UInt8.xor_zero
theorem getD_flipd {len i bit n : Nat} {m : W32} (h : i < len) : (flipd len bit n m).getD i 0 = fbyte bit n m i := by simp [flipd, h]
theorem getD_xors {a b : List UInt8} (h : a.length = b.length) (i : Nat) : (xors a b).getD i 0 = a.getD i 0 ^^^ b.getD i 0 := by
  rcases Nat.lt_or_ge i a.length with hi | hi
  · simp [xors, List.getD_eq_getElem?_getD, List.getElem?_zipWith, List.getElem?_eq_getElem hi, List.getElem?_eq_getElem (show i < b.length by omega)]
  · simp [xors, List.getD_eq_getElem?_getD, List.getElem?_zipWith, List.getElem?_eq_none hi, List.getElem?_eq_none (show b.length ≤ i by omega)]
theorem bytes_ext {a b : List UInt8} (hl : a.length = b.length) (h : ∀ i, i < a.length → a.getD i 0 = b.getD i 0) : a = b := by
  apply List.ext_getElem hl
  intro i h1 h2
  have := h i h1
  simpa [List.getD_eq_getElem?_getD, List.getElem?_eq_getElem h1, List.getElem?_eq_getElem h2] using this
theorem flip_zero (bs : List UInt8) (bit : Nat) (m : W32) : flip bs bit 0 m = bs := by
  apply bytes_ext (length_flip _ _ _ _)
  intro i hi
  rw [length_flip] at hi
  rw [flip, getD_xors (by rw [length_flipd]), getD_flipd hi, fbyte_zero, u8_xor_zero]
theorem fbit_succ (bit n : Nat) (m : W32) (p : Nat) : fbit bit (n + 1) m p = (fbit bit n m p ^^ (decide (p = bit + n) && m.getLsbD n)) := by
  unfold fbit
  by_cases h : p = bit + n
  · subst h
    simp [Nat.add_sub_cancel_left]
  · have : (bit ≤ p ∧ p < bit + (n + 1)) ↔ (bit ≤ p ∧ p < bit + n) := by omega
    simp [h, this]
theorem fbyte_succ (bit n : Nat) (m : W32) (at' : Nat) : (fbyte bit (n + 1) m at').toBitVec = (fbyte bit n m at').toBitVec ^^^ (if at' = (bit + n) / 8 then BitVec.ofNat 8 (m.getLsbD n).toNat <<< ((bit + n) % 8) else 0#8) := by
  apply bv8_ext
  intro j hj
  rw [BitVec.getLsbD_xor]
  rw [get_fbyte _ _ _ _ hj, get_fbyte _ _ _ _ hj, fbit_succ]
  congr 1
  split
  · rename_i h
    have hr : (bit + n) % 8 < 8 := by omega
    have := shl_bit ⟨(bit + n) % 8, hr⟩ ⟨j, hj⟩ (m.getLsbD n)
    simp only at this
    rw [this, Bool.and_comm]
    congr 1
    simp only [Fin.mk.injEq]
    exact decide_eq_decide.2 (by omega)
  · rename_i h
    have : ¬ (8 * at' + j = bit + n) := by omega
    simp [this]
/-- One more bit. -/
theorem flip_succ {bs : List UInt8} {bit n : Nat} {m : W32} (h : (bit + n) / 8 < bs.length) :
    flip bs bit (n + 1) m = (flip bs bit n m).set ((bit + n) / 8) ⟨((flip bs bit n m).getD ((bit + n) / 8) 0).toBitVec ^^^ (BitVec.ofNat 8 (m.getLsbD n).toNat <<< ((bit + n) % 8))⟩ := by
  apply bytes_ext (by simp [length_flip])
  intro i hi
  rw [length_flip] at hi
  have e : ∀ k, (flip bs bit k m).getD i 0 = bs.getD i 0 ^^^ fbyte bit k m i := fun k => by rw [flip, getD_xors (by rw [length_flipd]), getD_flipd hi]
  rw [e]
  have hs := fbyte_succ bit n m i
  by_cases hat : i = (bit + n) / 8
  · subst hat
    rw [getD_set, if_pos ⟨rfl, by rw [length_flip]; exact h⟩, e]
    rw [if_pos rfl] at hs
    apply UInt8.eq_of_toBitVec_eq
    simp only [UInt8.toBitVec_xor, hs, BitVec.xor_assoc]
  · rw [getD_set, if_neg (fun h => hat h.1.symm), e]
    rw [if_neg hat, BitVec.xor_zero] at hs
    congr 1
    exact UInt8.eq_of_toBitVec_eq hs
theorem flip_same {bs : List UInt8} {bit n : Nat} {m : W32} (h : m.getLsbD n = false) : flip bs bit (n + 1) m = flip bs bit n m := by
  unfold flip flipd
  congr 1
  apply List.map_congr_left
  intro i _
  apply UInt8.eq_of_toBitVec_eq
  rw [fbyte_succ, h]
  split <;> simp
/-- What lies behind the end turns nothing. -/
theorem flip_beyond {bs : List UInt8} {bit n k : Nat} {m : W32} (h : 8 * bs.length ≤ bit + n) (hk : n ≤ k) : flip bs bit k m = flip bs bit n m := by
  unfold flip flipd
  congr 1
  apply List.map_congr_left
  intro i hi
  rw [List.mem_range] at hi
  apply UInt8.eq_of_toBitVec_eq
  apply bv8_ext
  intro j hj
  rw [get_fbyte _ _ _ _ hj, get_fbyte _ _ _ _ hj]
  unfold fbit
  congr 1
  exact decide_eq_decide.2 (by omega)
theorem xors_self : ∀ a : List UInt8, ∀ b, b.length = a.length → xors (xors a b) b = a := by
  intro a b h
  apply bytes_ext (by simp [length_xors, h])
  intro i hi
  rw [getD_xors (by simp [length_xors, h]), getD_xors h.symm, UInt8.xor_assoc, UInt8.xor_self, u8_xor_zero]
theorem flip_flip (bs : List UInt8) (bit n : Nat) (m : W32) : flip (flip bs bit n m) bit n m = bs := by
  unfold flip
  rw [length_xors, length_flipd, Nat.min_self]
  exact xors_self _ _ (length_flipd _ _ _ _)

/-! ### Bit by bit -/
def bw (b : Bool) : W32 := if b then 1#32 else 0#32
def cbits (s : W32) (l : List Bool) : W32 := l.foldl (fun s b => bstep (s ^^^ bw b)) s
def word : List Bool → W32
  | [] => 0#32
  | b :: r => bw b ^^^ (word r <<< 1)
def bitsOf (b : BitVec 8) : List Bool := (List.range 8).map b.getLsbD
def toBits (bs : List UInt8) : List Bool := bs.flatMap fun b => bitsOf b.toBitVec
theorem word_lt : ∀ (l : List Bool) (i : Nat), l.length ≤ i → (word l).getLsbD i = false
  | [], i, _ => by simp [word]
  | b :: r, i, h => by
    simp only [List.length_cons] at h
    simp only [word, BitVec.getLsbD_xor, BitVec.getLsbD_shiftLeft]
    rw [word_lt r (i - 1) (by omega)]
    have : (bw b).getLsbD i = false := by
      cases b
      · simp [bw]
      · simp only [bw, if_true, BitVec.getLsbD_one]
        simp; omega
    simp [this]
theorem bstep_shl (v : W32) (h : v.getLsbD 31 = false) : bstep (v <<< 1) = v := by
  rw [bstep_shift _ (by simp)]
  apply BitVec.eq_of_getLsbD_eq
  intro i hi
  rw [BitVec.getLsbD_ushiftRight, BitVec.getLsbD_shiftLeft]
  by_cases h31 : i = 31
  · subst h31; rw [h]; simp
  · simp [show 1 + i < 32 by omega]
theorem cbits_word : ∀ (l : List Bool) (s : W32), l.length ≤ 32 → cbits s l = bsteps l.length (s ^^^ word l)
  | [], s, _ => by simp [cbits, word, bsteps]
  | b :: r, s, h => by
    simp only [List.length_cons] at h
    have e : cbits s (b :: r) = cbits (bstep (s ^^^ bw b)) r := rfl
    rw [e, cbits_word r _ (by omega), List.length_cons, Nat.add_comm, bsteps_add]
    congr 1
    show _ = bstep _
    simp only [word]
    rw [← BitVec.xor_assoc, bstep_xor (s ^^^ bw b) (word r <<< 1), bstep_shl _ (word_lt r 31 (by omega))]
theorem cbits_append (s : W32) (a b : List Bool) : cbits s (a ++ b) = cbits (cbits s a) b := by simp [cbits]
theorem cbits_false (n : Nat) : ∀ s, cbits s (List.replicate n false) = bsteps n s := by
  induction n with
  | zero => intro s; rfl
  | succ n ih =>
    intro s
    rw [List.replicate_succ]
    show cbits (bstep (s ^^^ bw false)) _ = _
    rw [ih, Nat.add_comm, bsteps_add]
    simp [bw, bsteps]
theorem word_zero : ∀ (l : List Bool), l.length ≤ 32 → word l = 0#32 → l = List.replicate l.length false
  | [], _, _ => rfl
  | b :: r, h, hw => by
    simp only [List.length_cons] at h
    simp only [word] at hw
    have h0 := congrArg (fun v => v.getLsbD 0) hw
    have hb : b = false := by
      cases b
      · rfl
      · simp [bw] at h0
    subst hb
    simp only [bw] at hw
    have hr : word r = 0#32 := by
      have h1 : word r <<< 1 = 0#32 := by simpa using hw
      have := bstep_shl (word r) (word_lt r 31 (by omega))
      rw [h1, bstep_zero] at this
      exact this.symm
    rw [List.length_cons, List.replicate_succ, ← word_zero r (by omega) hr]
theorem bitsOf_word (b : BitVec 8) : word (bitsOf b) = b.setWidth 32 := by
  have : ∀ b : BitVec 8, word (bitsOf b) = b.setWidth 32 := by decide
  exact this b
theorem cstep_bits (s : W32) (b : UInt8) : cstep s b = cbits s (bitsOf b.toBitVec) := by
  rw [cbits_word _ _ (by simp [bitsOf]), bitsOf_word]
  simp [cstep, bitsOf]
theorem cupd_bits : ∀ (bs : List UInt8) (s : W32), cupd s bs = cbits s (toBits bs)
  | [], s => rfl
  | b :: r, s => by
    show cupd (cstep s b) r = cbits s (bitsOf b.toBitVec ++ toBits r)
    rw [cbits_append, cupd_bits r, cstep_bits]
/-- A burst within 32 bits from nought is told. -/
theorem burst_zero (p q : Nat) (l : List Bool) (h : l.length ≤ 32) (hz : cbits 0#32 (List.replicate p false ++ l ++ List.replicate q false) = 0#32) : l = List.replicate l.length false := by
  rw [cbits_append, cbits_append, cbits_false p, bsteps_zero, cbits_false q, cbits_word _ _ h] at hz
  have h1 := bsteps_inj0 _ (bsteps_inj0 _ hz)
  rw [BitVec.zero_xor] at h1
  exact word_zero l h h1
theorem toBits_flipd (bit n : Nat) (m : W32) : ∀ len, toBits (flipd len bit n m) = (List.range (8 * len)).map (fbit bit n m) := by
  intro len
  induction len with
  | zero => rfl
  | succ len ih =>
    have e : flipd (len + 1) bit n m = flipd len bit n m ++ [fbyte bit n m len] := by simp [flipd, List.range_succ]
    rw [e]
    unfold toBits at ih ⊢
    rw [List.flatMap_append, ih, show 8 * (len + 1) = 8 * len + 8 by omega, List.range_add, List.map_append]
    congr 1
    simp only [List.flatMap_cons, List.flatMap_nil, List.append_nil, bitsOf, List.map_map]
    apply List.map_congr_left
    intro j hj
    rw [List.mem_range] at hj
    exact get_fbyte _ _ _ _ hj
theorem range_parts (f : Nat → Bool) (N a b : Nat) (hab : a ≤ b) (hb : b ≤ N) (h0 : ∀ i, i < a → f i = false) (h1 : ∀ i, b ≤ i → f i = false) :
    (List.range N).map f = List.replicate a false ++ (List.range (b - a)).map (fun i => f (a + i)) ++ List.replicate (N - b) false := by
  obtain ⟨k, rfl⟩ : ∃ k, b = a + k := ⟨b - a, by omega⟩
  obtain ⟨c, rfl⟩ : ∃ c, N = a + k + c := ⟨N - (a + k), by omega⟩
  rw [show a + k - a = k by omega, show a + k + c - (a + k) = c by omega, List.range_add, List.range_add, List.map_append, List.map_append, List.map_map, List.map_map]
  congr 1
  · congr 1
    rw [List.eq_replicate_iff]
    refine ⟨by simp, fun x hx => ?_⟩
    obtain ⟨i, hi, rfl⟩ := List.mem_map.1 hx
    exact h0 i (List.mem_range.1 hi)
  · rw [List.eq_replicate_iff]
    refine ⟨by simp, fun x hx => ?_⟩
    obtain ⟨i, hi, rfl⟩ := List.mem_map.1 hx
    exact h1 _ (by simp only [Function.comp]; omega)
/-- Bits turned within 32 that leave the state as it was are none. -/
theorem flip_told {bs : List UInt8} {bit n : Nat} {m s : W32} (hn : n ≤ 32) (h : cupd s (flip bs bit n m) = cupd s bs) : flip bs bit n m = bs := by
  have h1 := cupd_xor bs (flipd bs.length bit n m) s 0#32 (by rw [length_flipd])
  rw [BitVec.xor_zero] at h1
  have h2 : cupd 0#32 (flipd bs.length bit n m) = 0#32 := by
    unfold flip at h
    rw [h] at h1
    have := congrArg (cupd s bs ^^^ ·) h1
    simp only [BitVec.xor_self, ← BitVec.xor_assoc, BitVec.zero_xor] at this
    exact this.symm
  rw [cupd_bits, toBits_flipd] at h2
  rcases Nat.lt_or_ge bit (8 * bs.length) with hb | hb
  · -- the window, cut at the end
    obtain ⟨k, hk1, hk2, hk3⟩ : ∃ k, k ≤ n ∧ bit + k ≤ 8 * bs.length ∧ (k = n ∨ bit + k = 8 * bs.length) := by
      rcases Nat.lt_or_ge (bit + n) (8 * bs.length) with h | h
      · exact ⟨n, by omega, by omega, .inl rfl⟩
      · exact ⟨8 * bs.length - bit, by omega, by omega, .inr (by omega)⟩
    have hkk : flip bs bit n m = flip bs bit k m := by
      rcases hk3 with rfl | h
      · rfl
      · exact flip_beyond (by omega) hk1
    have hfd : ∀ i, i < 8 * bs.length → fbit bit n m i = fbit bit k m i := by
      intro i hi
      unfold fbit
      congr 1
      exact decide_eq_decide.2 (by omega)
    rw [hkk]
    have hp := range_parts (fbit bit k m) (8 * bs.length) bit (bit + k) (by omega) hk2
      (fun i hi => by unfold fbit; rw [decide_eq_false (by omega), Bool.false_and]) (fun i hi => by unfold fbit; rw [decide_eq_false (by omega), Bool.false_and])
    have hm : (List.range (8 * bs.length)).map (fbit bit n m) = (List.range (8 * bs.length)).map (fbit bit k m) := List.map_congr_left fun i hi => hfd i (List.mem_range.1 hi)
    rw [hm, hp] at h2
    have h3 := burst_zero _ _ _ (by simp; omega) h2
    have h4 : ∀ i, i < bs.length → fbyte bit k m i = 0 := by
      intro i hi
      apply UInt8.eq_of_toBitVec_eq
      apply bv8_ext
      intro j hj
      rw [get_fbyte _ _ _ _ hj]
      have h5 : (List.range (8 * bs.length)).map (fbit bit k m) = List.replicate (8 * bs.length) false := by
        rw [hp, h3]
        simp only [List.length_map, List.length_range, List.replicate_append_replicate]
        congr 1
        omega
      have h6 := congrArg (fun l => l[8 * i + j]?) h5
      simp only [List.getElem?_map, List.getElem?_range (show 8 * i + j < 8 * bs.length by omega), Option.map_some, List.getElem?_replicate, if_pos (show 8 * i + j < 8 * bs.length by omega), Option.some.injEq] at h6
      rw [h6]
      simp
    apply bytes_ext (length_flip _ _ _ _)
    intro i hi
    rw [length_flip] at hi
    rw [flip, getD_xors (by rw [length_flipd]), getD_flipd hi, h4 i hi, u8_xor_zero]
  · have := flip_beyond (bs := bs) (bit := bit) (n := 0) (k := n) (m := m) (by omega) (by omega)
    rw [this, flip_zero]
/-! ### A check behind its bytes -/
theorem word_append : ∀ (a b : List Bool), word (a ++ b) = word a ^^^ (word b <<< a.length)
  | [], b => by simp [word]
  | x :: r, b => by
    simp only [List.cons_append, word, word_append r b, BitVec.shiftLeft_xor_distrib, BitVec.xor_assoc, List.length_cons, Nat.add_comm r.length 1]
    rw [Nat.add_comm 1, BitVec.shiftLeft_add]
theorem length_bitsOf (b : BitVec 8) : (bitsOf b).length = 8 := by simp [bitsOf]
theorem ofNat_byte (v : W32) (i : Nat) : (UInt8.ofNat (v.toNat / 256 ^ i)).toBitVec = (v >>> (8 * i)).setWidth 8 := by
  apply BitVec.eq_of_toNat_eq
  rw [BitVec.toNat_setWidth, BitVec.toNat_ushiftRight, Nat.shiftRight_eq_div_pow, Nat.pow_mul]
  simp [UInt8.toNat_ofNat']
theorem getLsbD_byte (v : W32) (k i : Nat) (hi : i < 32) : ((((v >>> k).setWidth 8).setWidth 32) <<< k).getLsbD i = (decide (k ≤ i ∧ i < k + 8) && v.getLsbD i) := by
  simp only [BitVec.getLsbD_shiftLeft, BitVec.getLsbD_setWidth, BitVec.getLsbD_ushiftRight, hi, decide_true, Bool.true_and]
  by_cases h : k ≤ i
  · rw [show k + (i - k) = i by omega]
    by_cases h2 : i < k + 8
    · simp [h, h2, show ¬ i < k by omega, show i - k < 8 by omega, show i - k < 32 by omega]
    · simp [h, h2, show ¬ i - k < 8 by omega]
  · simp [h, show i < k by omega]
theorem word_le (v : W32) : word (toBits (le 4 v.toNat)) = v := by
  have e : toBits (le 4 v.toNat) = bitsOf ((v >>> (8 * 0)).setWidth 8) ++ (bitsOf ((v >>> (8 * 1)).setWidth 8) ++ (bitsOf ((v >>> (8 * 2)).setWidth 8) ++ bitsOf ((v >>> (8 * 3)).setWidth 8))) := by
    simp only [← ofNat_byte]
    simp [le, toBits, List.range_succ]
  rw [e, word_append, word_append, word_append]
  simp only [bitsOf_word, length_bitsOf, BitVec.shiftLeft_xor_distrib]
  simp only [← BitVec.shiftLeft_add]
  apply BitVec.eq_of_getLsbD_eq
  intro i hi
  have g := fun k => getLsbD_byte v k i hi
  have g0 := g 0
  simp only [BitVec.shiftLeft_zero] at g0
  simp only [BitVec.getLsbD_xor, Nat.reduceMul, Nat.reduceAdd]
  rw [g0, g 8, g 16, g 24]
  rcases Nat.lt_or_ge i 8 with h | h
  · simp [h, show ¬ 8 ≤ i by omega, show ¬ 16 ≤ i by omega, show ¬ 24 ≤ i by omega]
  · rcases Nat.lt_or_ge i 16 with h1 | h1
    · simp [h, h1, show ¬ i < 8 by omega, show ¬ 16 ≤ i by omega, show ¬ 24 ≤ i by omega]
    · rcases Nat.lt_or_ge i 24 with h2 | h2
      · simp [h, h1, h2, show ¬ i < 8 by omega, show ¬ i < 16 by omega, show ¬ 24 ≤ i by omega]
      · simp [h, h1, h2, hi, show ¬ i < 8 by omega, show ¬ i < 16 by omega, show ¬ i < 24 by omega]
theorem length_toBits : ∀ bs : List UInt8, (toBits bs).length = 8 * bs.length
  | [] => rfl
  | b :: r => by
    have : toBits (b :: r) = bitsOf b.toBitVec ++ toBits r := rfl
    rw [this, List.length_append, length_bitsOf, length_toBits r, List.length_cons]
    omega
theorem xor_not_self (s : W32) : s ^^^ ~~~ s = BitVec.allOnes 32 := by
  apply BitVec.eq_of_getLsbD_eq
  intro i hi
  rw [BitVec.getLsbD_xor, BitVec.getLsbD_not, BitVec.getLsbD_allOnes]
  simp only [hi, decide_true, Bool.true_and]
  cases s.getLsbD i <;> rfl
theorem cupd_le (s v : W32) : cupd s (le 4 v.toNat) = bsteps 32 (s ^^^ v) := by
  rw [cupd_bits, cbits_word _ _ (by rw [length_toBits, le_length]; omega), word_le, length_toBits, le_length]
/-- The state behind any bytes and their check. -/
def residue : W32 := bsteps 32 (BitVec.allOnes 32)
theorem cupd_behind (a : List UInt8) : cupd (~~~ 0#32) (a ++ le 4 (crc a).toNat) = residue := by
  rw [cupd_append, cupd_le, crc_eq]
  unfold residue
  congr 1
  rw [xor_not_self]
theorem bsteps_inj {n : Nat} {a b : W32} (h : bsteps n a = bsteps n b) : a = b := by
  have h1 : bsteps n (a ^^^ b) = 0#32 := by rw [bsteps_xor, h, BitVec.xor_self]
  have h2 := bsteps_inj0 n h1
  have := congrArg (· ^^^ b) h2
  simpa [BitVec.xor_assoc] using this
/-- A check that stands behind its bytes is told by the state. -/
theorem good_iff {x : List UInt8} (h : 4 ≤ x.length) : (crc (x.take (x.length - 4))).toNat = lev (x.drop (x.length - 4)) ↔ cupd (~~~ 0#32) x = residue := by
  generalize hk : x.length - 4 = k
  have hd : (x.drop k).length = 4 := by simp; omega
  have hlt := lev_lt (x.drop k)
  rw [hd] at hlt
  have e : x = x.take k ++ le 4 (BitVec.ofNat 32 (lev (x.drop k))).toNat := by
    rw [BitVec.toNat_ofNat, Nat.mod_eq_of_lt (by simpa using hlt)]
    have := le_lev (x.drop k)
    rw [hd] at this
    rw [this, List.take_append_drop]
  have e2 : cupd (~~~ 0#32) x = bsteps 32 (cupd (~~~ 0#32) (x.take k) ^^^ BitVec.ofNat 32 (lev (x.drop k))) := by
    conv => lhs; rw [e]
    rw [cupd_append, cupd_le]
  rw [e2, crc_eq]
  generalize cupd (~~~ 0#32) (x.take k) = s
  constructor
  · intro h1
    rw [← h1, BitVec.ofNat_toNat, BitVec.setWidth_eq, xor_not_self]
    rfl
  · intro h1
    have h2 := bsteps_inj h1
    have h3 : BitVec.ofNat 32 (lev (x.drop k)) = ~~~ s := by
      have := congrArg (s ^^^ ·) h2
      simp only [← BitVec.xor_assoc, BitVec.xor_self, BitVec.zero_xor] at this
      rw [this, BitVec.xor_allOnes]
    rw [← h3, BitVec.toNat_ofNat, Nat.mod_eq_of_lt (by simpa using hlt)]
end Go.Proofs.YtpbjbhcejgnhiaaDoor.Crc
