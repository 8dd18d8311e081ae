/- Plain mathematics of checks (chapter 2): no program in sight. -/
set_option linter.unusedVariables false
set_option linter.unusedSimpArgs false
namespace Go.Proofs.YtpbjbhcejgnhiaaDoor.Crc

abbrev W32 := BitVec 32
def poly : W32 := 0x82f63b78#32
/-- A bit's step. -/
def bstep (v : W32) : W32 := (v >>> 1) ^^^ (if v.getLsbD 0 then poly else 0#32)
def bsteps : Nat → W32 → W32
  | 0, v => v
  | n + 1, v => bsteps n (bstep v)
def entry (i : Nat) : W32 := bsteps 8 (BitVec.ofNat 32 i)
def table : List W32 := (List.range 256).map entry
/-- A byte's step, by a table. -/
def step (t : List W32) (s : W32) (b : UInt8) : W32 := (s >>> 8) ^^^ t.getD ((s.setWidth 8) ^^^ b.toBitVec).toNat 0#32
def upd (t : List W32) (s : W32) (bs : List UInt8) : W32 := bs.foldl (step t) s
def sum (t : List W32) (bs : List UInt8) : W32 := ~~~ (upd t (~~~ 0#32) bs)
def crc (bs : List UInt8) : W32 := sum table bs
/-- A byte's step without a table. -/
def cstep (s : W32) (b : UInt8) : W32 := bsteps 8 (s ^^^ b.toBitVec.setWidth 32)
def cupd (s : W32) (bs : List UInt8) : W32 := bs.foldl cstep s

theorem bstep_xor (a b : W32) : bstep (a ^^^ b) = bstep a ^^^ bstep b := by
  unfold bstep
  rw [BitVec.ushiftRight_xor_distrib, BitVec.getLsbD_xor]
  generalize a >>> 1 = x
  generalize b >>> 1 = y
  cases a.getLsbD 0 <;> cases b.getLsbD 0
  · simp
  · simp only [Bool.xor_true, Bool.not_false, if_true, Bool.false_eq_true, if_false, BitVec.xor_zero]; ac_rfl
  · simp only [Bool.xor_false, if_true, Bool.false_eq_true, if_false, BitVec.xor_zero]; ac_rfl
  · have : x ^^^ poly ^^^ (y ^^^ poly) = x ^^^ y ^^^ (poly ^^^ poly) := by ac_rfl
    simp only [bne_self_eq_false, Bool.false_eq_true, if_false, if_true, this, BitVec.xor_self]
theorem bsteps_xor (n : Nat) : ∀ a b : W32, bsteps n (a ^^^ b) = bsteps n a ^^^ bsteps n b := by
  induction n with
  | zero => intro a b; rfl
  | succ n ih => intro a b; simp only [bsteps, bstep_xor, ih]
theorem bstep_zero : bstep 0#32 = 0#32 := by decide
theorem bsteps_zero (n : Nat) : bsteps n 0#32 = 0#32 := by
  induction n with
  | zero => rfl
  | succ n ih => simp only [bsteps, bstep_zero, ih]
theorem bsteps_add (m n : Nat) : ∀ v, bsteps (m + n) v = bsteps n (bsteps m v) := by
  induction m with
  | zero => intro v; simp [bsteps]
  | succ m ih => intro v; rw [Nat.add_right_comm]; simp only [bsteps, ih]
theorem bstep_inj0 {v : W32} (h : bstep v = 0#32) : v = 0#32 := by
  unfold bstep at h
  by_cases hb : v.getLsbD 0 = true
  · rw [if_pos hb] at h
    exfalso
    have h31 := congrArg (fun x => x.getLsbD 31) h
    simp [BitVec.getLsbD_xor, BitVec.getLsbD_ushiftRight] at h31
    revert h31
    decide
  · have hb' : v.getLsbD 0 = false := by simpa using hb
    rw [if_neg hb] at h
    simp at h
    apply BitVec.eq_of_getLsbD_eq
    intro i hi
    simp only [BitVec.getLsbD_zero]
    rcases i with _ | i
    · exact hb'
    · have := congrArg (fun x => x.getLsbD i) h
      simpa [BitVec.getLsbD_ushiftRight, Nat.add_comm] using this
theorem bsteps_inj0 (n : Nat) : ∀ {v : W32}, bsteps n v = 0#32 → v = 0#32 := by
  induction n with
  | zero => intro v h; exact h
  | succ n ih => intro v h; exact bstep_inj0 (ih h)
/-- High bits fall through eight steps. -/
theorem bstep_shift (v : W32) (h : v.getLsbD 0 = false) : bstep v = v >>> 1 := by
  unfold bstep; rw [h]; simp
theorem bsteps_high (n : Nat) : ∀ (v : W32), (∀ i, i < n → v.getLsbD i = false) → bsteps n v = v >>> n := by
  induction n with
  | zero => intro v _; simp [bsteps]
  | succ n ih =>
    intro v h
    simp only [bsteps]
    rw [bstep_shift v (h 0 (by omega)), ih]
    · rw [← BitVec.shiftRight_add, Nat.add_comm]
    · intro i hi
      rw [BitVec.getLsbD_ushiftRight]
      exact h _ (by omega)
/-- The table's step is the step without one. -/
theorem split_low (s : W32) : s = ((s >>> 8) <<< 8) ^^^ (s.setWidth 8).setWidth 32 := by
  apply BitVec.eq_of_getLsbD_eq
  intro i hi
  simp only [BitVec.getLsbD_xor, BitVec.getLsbD_shiftLeft, BitVec.getLsbD_ushiftRight, BitVec.getLsbD_setWidth]
  by_cases h8 : i < 8
  · simp [h8, hi]
  · simp [h8, hi, show 8 + (i - 8) = i by omega]
theorem entry_of (x : BitVec 8) : table.getD x.toNat 0#32 = bsteps 8 (x.setWidth 32) := by
  have hx : x.toNat < 256 := x.isLt
  unfold table
  rw [List.getD_eq_getElem?_getD, List.getElem?_map, List.getElem?_range hx]
  simp only [Option.map_some, Option.getD_some, entry]
  congr 1
  apply BitVec.eq_of_toNat_eq
  simp only [BitVec.toNat_ofNat, BitVec.toNat_setWidth]
theorem step_table (s : W32) (b : UInt8) : step table s b = cstep s b := by
  unfold step cstep
  rw [entry_of]
  have h1 : s ^^^ b.toBitVec.setWidth 32 = ((s >>> 8) <<< 8) ^^^ ((s.setWidth 8) ^^^ b.toBitVec).setWidth 32 := by
    conv => lhs; rw [split_low s]
    rw [BitVec.xor_assoc, ← BitVec.setWidth_xor]
  rw [h1, bsteps_xor]
  congr 1
  rw [bsteps_high]
  · apply BitVec.eq_of_getLsbD_eq
    intro i hi
    simp only [BitVec.getLsbD_ushiftRight, BitVec.getLsbD_shiftLeft]
    by_cases h : 8 + i < 32
    · simp [h, show 8 + (8 + i - 8) = 8 + i by omega]
    · have : s.getLsbD (8 + i) = false := BitVec.getLsbD_of_ge _ _ (by omega)
      simp [h, this]
  · intro i hi
    simp only [BitVec.getLsbD_shiftLeft]
    simp [hi]
theorem upd_table (s : W32) (bs : List UInt8) : upd table s bs = cupd s bs := by
  unfold upd cupd
  induction bs generalizing s with
  | nil => rfl
  | cons b r ih => simp only [List.foldl_cons, step_table, ih]
theorem crc_eq (bs : List UInt8) : crc bs = ~~~ (cupd (~~~ 0#32) bs) := by rw [crc, sum, upd_table]
theorem upd_append (t : List W32) (s : W32) (a b : List UInt8) : upd t s (a ++ b) = upd t (upd t s a) b := by simp [upd]
theorem cupd_append (s : W32) (a b : List UInt8) : cupd s (a ++ b) = cupd (cupd s a) b := by simp [cupd]
/-- States and bytes are turned together. -/
def xors : List UInt8 → List UInt8 → List UInt8 := List.zipWith (· ^^^ ·)
theorem cupd_xor : ∀ (a b : List UInt8) (s t : W32), a.length = b.length → cupd (s ^^^ t) (xors a b) = cupd s a ^^^ cupd t b := by
  intro a
  induction a with
  | nil => intro b s t h; cases b with
    | nil => rfl
    | cons _ _ => simp at h
  | cons x r ih =>
    intro b s t h
    cases b with
    | nil => simp at h
    | cons y q =>
      simp only [xors, List.zipWith_cons_cons, cupd, List.foldl_cons]
      have : cstep (s ^^^ t) (x ^^^ y) = cstep s x ^^^ cstep t y := by
        unfold cstep
        rw [← bsteps_xor]
        congr 1
        rw [UInt8.toBitVec_xor, BitVec.setWidth_xor]
        ac_rfl
      rw [this]
      exact ih q _ _ (by simpa using h)
end Go.Proofs.YtpbjbhcejgnhiaaDoor.Crc
