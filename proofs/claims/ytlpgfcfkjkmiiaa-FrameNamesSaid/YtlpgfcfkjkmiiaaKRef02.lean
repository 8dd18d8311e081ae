/- Contracts of the document's answer, chapter 2. -/
import Derived.Test.YtlpgfcfkjkmiiaaKCrc
set_option linter.unusedVariables false
set_option linter.unusedSimpArgs false
namespace Go.Proofs.Ytlpgfcfkjkmiiaa.V
open Go Go.Proofs Crc
theorem rupdate_calls {w : World} {T : List W32} {s : W32} {A : Option Addr} {n c : Nat} {bs : List UInt8} (hT : T.length = 256) (h : Sl w A n (bV bs)) :
    Calls Try.prog 35 #[.agg (tabV T).toArray, .int .u32 (s.toNat : Int), .slice A n c] w (Ret fun v w' => v = .int .u32 ((upd T s bs).toNat : Int) ∧ Ext w w') := by
  apply calls35
  unfold S35
  apply newW_i
  have hb0 : Blk (w.alloc (.cells (tabV T).toArray 50)) w.heap.size (tabV T) 50 := by simpa using Blk.new w (tabV T).toArray _
  have he0 : Ext w (w.alloc (.cells (tabV T).toArray 50)) := (Ext.refl w).alloc _
  have hl := h.blen
  have hn := h.le
  generalize w.alloc (.cells (tabV T).toArray 50) = w1 at hb0 he0 ⊢
  refine loopW_i (fun x w' => w' = w1 ∧ ∃ i : Nat, i ≤ n ∧ x = (((upd T s (bs.take i)).toNat : Int), (i : Int), ())) (fun x => (n - x.2.1).toNat) ⟨rfl, 0, by omega, by simp [upd]⟩ ?_
  rintro _ w' ⟨rfl, i, hi, rfl⟩
  dsimp only
  have h1 := h.ext he0
  by_cases hlt : i < n
  · refine splitW_t (decide_eq_true (by omega)) ?_
    refine idx_byte h1 (by omega) (by omega) ?_
    have hidx : ixor .u8 (IntKind.wrap .u8 ((upd T s (bs.take i)).toNat : Int)) ((bs.getD (Int.toNat (i : Int)) 0).toNat : Int) = ((((upd T s (bs.take i)).setWidth 8) ^^^ (bs.getD i 0).toBitVec).toNat : Int) := by
      rw [wrap_u8_bv32, u8_toBitVec, ixor8]; rfl
    rw [hidx]
    have hx : (((upd T s (bs.take i)).setWidth 8) ^^^ (bs.getD i 0).toBitVec).toNat < 256 := (((upd T s (bs.take i)).setWidth 8) ^^^ (bs.getD i 0).toBitVec).isLt
    refine ⟨⟨by omega, by omega⟩, ?_⟩
    rw [Int.toNat_natCast, Nat.mul_one, add_mk, Nat.zero_add]
    refine ldW_blk hb0 (tabV_get (by omega)) ?_
    rw [wrap_i64_nat (by omega) (by omega)]
    refine ⟨⟨rfl, i + 1, by omega, ?_⟩, by omega⟩
    rw [show ishr .u32 ((upd T s (bs.take i)).toNat : Int) (8 : Int) = ((upd T s (bs.take i) >>> 8).toNat : Int) from ishr32 _ 8 (by omega), ixor32]
    have e : upd T s (bs.take (i + 1)) = Crc.step T (upd T s (bs.take i)) (bs.getD i 0) := by
      rw [List.take_succ_eq_append_getElem (by omega)]
      simp only [upd, List.foldl_append, List.foldl_cons, List.foldl_nil]
      rw [List.getD_eq_getElem?_getD, List.getElem?_eq_getElem (by omega)]
      rfl
    rw [e]
    rfl
  · obtain rfl : i = n := by omega
    refine splitW_f (decide_eq_false (by omega)) ?_
    rw [List.take_of_length_le (by omega)]
    exact ⟨rfl, he0⟩

theorem rtable_calls (w : World) : Calls Try.prog 32 #[] w (Ret fun v w' => v = .agg (tabV table).toArray ∧ Ext w w') := by
  apply calls32
  unfold S32
  apply newW_i
  have he00 : Ext w (w.alloc (.cells (zeroC Try.prog 50) 50)) := (Ext.refl w).alloc _
  have hb00 : Blk (w.alloc (.cells (zeroC Try.prog 50) 50)) w.heap.size (zeroC Try.prog 50).toList 50 := Blk.new w _ _
  generalize w.alloc (.cells (zeroC Try.prog 50) 50) = w0 at he00 hb00 ⊢
  apply newW_i
  have hz : (zeroC Try.prog 50).toList = List.replicate 256 (.int .u32 0) := by kernel_rfl
  have hb0 : Blk (w0.alloc (.cells (zeroC Try.prog 50) 50)) w0.heap.size (List.replicate 256 (.int .u32 0)) 50 := by rw [← hz]; exact Blk.new w0 _ _
  have hb01 := hb00.alloc (.cells (zeroC Try.prog 50) 50)
  rw [hz] at hb01
  have hne : w.heap.size < w0.heap.size := hb00.lt
  have he0 : Ext w (w0.alloc (.cells (zeroC Try.prog 50) 50)) := he00.alloc _
  generalize w0.alloc (.cells (zeroC Try.prog 50) 50) = w1 at hb0 he0 hb01 ⊢
  refine loopW_i (fun x w' => Ext w w' ∧ ∃ i : Nat, i ≤ 256 ∧ x = ((i : Int), ()) ∧ Blk w' w0.heap.size (tabV (table.take i) ++ List.replicate (256 - i) (.int .u32 0)) 50 ∧ Blk w' w.heap.size (List.replicate 256 (.int .u32 0)) 50) (fun x => (256 - x.1).toNat) ⟨he0, 0, by omega, rfl, hb0, hb01⟩ ?_
  rintro _ w' ⟨he, i, hi, rfl, hb, hbr⟩
  dsimp only
  by_cases hlt : i < 256
  · refine splitW_t (decide_eq_true (by omega)) ?_
    have e0 : IntKind.wrap .u32 (i : Int) = ((BitVec.ofNat 32 i).toNat : Int) := by
      rw [wrap_u32, BitVec.toNat_ofNat]; simp only [Nat.reducePow]; omega
    rw [e0]
    refine loopW_i (fun x w'' => w'' = w' ∧ ∃ k : Nat, k ≤ 8 ∧ x = (((bsteps k (BitVec.ofNat 32 i)).toNat : Int), (k : Int), ())) (fun x => (8 - x.2.1).toNat) ⟨rfl, 0, by omega, rfl⟩ ?_
    rintro _ _ ⟨rfl, k, hk, rfl⟩
    dsimp only
    by_cases hk8 : k < 8
    · refine splitW_t (decide_eq_true (by omega)) ?_
      rw [wrap_i64_nat (by omega) (by omega)]
      generalize hv : bsteps k (BitVec.ofNat 32 i) = v
      have e1 : bsteps (k + 1) (BitVec.ofNat 32 i) = bstep v := by rw [bsteps_add, hv]; rfl
      have hlsb : v.getLsbD 0 = v.toNat.testBit 0 := rfl
      have e2 : Int.tmod (v.toNat : Int) (2 : Int) = ((v.toNat % 2 : Nat) : Int) := rfl
      have e3 : ishr .u32 (v.toNat : Int) (1 : Int) = ((v >>> 1).toNat : Int) := ishr32 v 1 (by omega)
      rw [e2, e3]
      refine splitW_i (fun h => ?_) (fun h => ?_)
      · have h1 : v.toNat % 2 = 1 := by have := of_decide_eq_true h; omega
        refine ⟨⟨rfl, k + 1, by omega, ?_⟩, by omega⟩
        rw [e1, bstep, hlsb, Nat.testBit_zero, h1, show ixor .u32 ((v >>> 1).toNat : Int) (2197175160 : Int) = ((v >>> 1 ^^^ poly).toNat : Int) from ixor32 _ poly]
        rfl
      · have h1 : v.toNat % 2 = 0 := by have := of_decide_eq_false h; omega
        refine ⟨⟨rfl, k + 1, by omega, ?_⟩, by omega⟩
        rw [e1, bstep, hlsb, Nat.testBit_zero, h1]
        simp
    · obtain rfl : k = 8 := by omega
      refine splitW_f (decide_eq_false (by omega)) ?_
      refine ⟨⟨by omega, by omega⟩, ?_⟩
      rw [Int.toNat_natCast, Nat.mul_one, add_mk, Nat.zero_add]
      refine stW_blk hb (by simp [length_tabV, table]; omega) ?_
      rw [wrap_i64_nat (by omega) (by omega)]
      refine ⟨⟨he.set (Nat.le_of_lt hne) _, i + 1, by omega, rfl, ?_, hbr.other (by simp only; omega) _⟩, by omega⟩
      have h2 := hb.set i (.int .u32 ((bsteps 8 (BitVec.ofNat 32 i)).toNat : Int))
      have e3 : (tabV (table.take i) ++ List.replicate (256 - i) (Value.int .u32 0)).set i (.int .u32 ((bsteps 8 (BitVec.ofNat 32 i)).toNat : Int)) = tabV (table.take (i + 1)) ++ List.replicate (256 - (i + 1)) (Value.int .u32 0) := by
        have ht : (tabV (table.take i)).length = i := by simp [length_tabV, table]; omega
        rw [List.set_append_right _ _ (by omega), ht, Nat.sub_self, show 256 - i = (256 - (i + 1)) + 1 by omega, List.replicate_succ, List.set_cons_zero]
        rw [List.take_add_one, show table[i]? = some (entry i) by simp [table, hlt]]
        simp [tabV, entry]
      rw [e3] at h2
      exact h2
  · obtain rfl : i = 256 := by omega
    refine splitW_f (decide_eq_false (by omega)) ?_
    have hb2 : Blk w' w0.heap.size (tabV table) 50 := by
      have : table.take 256 = table := List.take_of_length_le (by simp [table])
      rw [this] at hb
      simpa using hb
    have hlen : (tabV table).length = 256 := by simp [length_tabV, table]
    have hone : ∀ v ∈ tabV table, v.oneCell' = true := by
      intro v hv
      obtain ⟨t, _, rfl⟩ := List.mem_map.1 hv
      rfl
    generalize tabV table = TT at hb2 hlen hone ⊢
    refine ⟨TT.toArray, by simpa using hlen, hb2.cellsAt, by simpa using hlen, ?_, ?_⟩
    · exact hbr.storable_from TT 0 (by rw [hlen, List.length_replicate]; omega) hone
    · have hb3 := hbr.setCells TT (by rw [hlen, List.length_replicate])
      exact ⟨TT.toArray, by simpa using hlen, hb3.cellsAt, rfl, he.setCells (Nat.le_refl _) _ _ _⟩
theorem rsum_calls {w : World} {T : List W32} {A : Option Addr} {n c : Nat} {bs : List UInt8} (hT : T.length = 256) (h : Sl w A n (bV bs)) :
    Calls Try.prog 31 #[.agg (tabV T).toArray, .slice A n c] w (Ret fun v w' => v = .int .u32 ((sum T bs).toNat : Int) ∧ Ext w w') := by
  apply calls31
  unfold S31
  apply newW_i
  have hb0 : Blk (w.alloc (.cells (tabV T).toArray 50)) w.heap.size (tabV T) 50 := by simpa using Blk.new w (tabV T).toArray _
  have he0 : Ext w (w.alloc (.cells (tabV T).toArray 50)) := (Ext.refl w).alloc _
  have hlen : (tabV T).length = 256 := by rw [length_tabV, hT]
  generalize w.alloc (.cells (tabV T).toArray 50) = w1 at hb0 he0 ⊢
  refine ldR_blk (cs := (tabV T).toArray) hb0 (by simpa using hlen) ?_
  have hc := rupdate_calls (w := w1) (T := T) (s := 4294967295#32) (c := c) hT (h.ext he0)
  refine callW_of hc ?_
  rintro _ w2 ⟨rfl, he⟩
  refine ⟨_, rfl, ?_⟩
  rw [inot32]
  exact ⟨rfl, he0.trans he⟩
theorem rcrc_calls {w : World} {A : Option Addr} {n c : Nat} {bs : List UInt8} (h : Sl w A n (bV bs)) : Calls Try.prog 25 #[.slice A n c] w (Ret fun v w' => v = .int .u32 ((crc bs).toNat : Int) ∧ Ext w w') := by
  apply calls25
  unfold S25
  refine callW_of (rtable_calls w) ?_
  rintro _ w1 ⟨rfl, he⟩
  refine ⟨(tabV table).toArray, rfl, ?_⟩
  refine callW_of (rsum_calls (by simp [table]) (h.ext he)) ?_
  rintro _ w2 ⟨rfl, he2⟩
  exact ⟨_, rfl, rfl, he.trans he2⟩
theorem rflip_calls {w : World} {A : Option Addr} {n c : Nat} {bs : List UInt8} {bit k : Int} {m : W32} (h : Sl w A n (bV bs)) (hn : n ≤ 1000000000) (hb0 : -9223372036854775808 ≤ bit) (hb1 : bit < 9223372036854775808) :
    Calls Try.prog 18 #[.slice A n c, .int .i64 bit, .int .i64 k, .int .u32 (m.toNat : Int)] w (Ret (Bytes w (flipG bs bit k m))) := by
  apply calls18
  unfold S18
  have hln := h.blen
  refine own_of h (by omega) ?_
  intro A1 c1 w2 ho he
  dsimp only
  unfold flipG
  refine splitW_i (fun hb => ?_) (fun hb => ?_)
  · rw [if_pos (.inl (of_decide_eq_true hb))]; exact bytes_ret ho he
  refine splitW_i (fun hk => ?_) (fun hk => ?_)
  · rw [if_pos (.inr (.inl (of_decide_eq_true hk)))]; exact bytes_ret ho he
  refine splitW_i (fun hk2 => ?_) (fun hk2 => ?_)
  · rw [if_pos (.inr (.inr (of_decide_eq_true hk2)))]; exact bytes_ret ho he
  have hb := of_decide_eq_false hb
  have hk := of_decide_eq_false hk
  have hk2 := of_decide_eq_false hk2
  rw [if_neg (by omega)]
  obtain ⟨b, rfl⟩ : ∃ b : Nat, bit = b := ⟨bit.toNat, by omega⟩
  obtain ⟨k, rfl⟩ : ∃ k' : Nat, k = k' := ⟨k.toNat, by omega⟩
  rw [Int.toNat_natCast, Int.toNat_natCast]
  refine loopW_i (fun x w' => ∃ i : Nat, i ≤ k ∧ x = ((i : Int), ()) ∧ Own 5 w' w.heap.size A1 n c1 (bV (flip bs b i m)) ∧ Ext w w') (fun x => (k - x.1).toNat) ⟨0, by omega, rfl, by rw [flip_zero]; exact ho, he⟩ ?_
  rintro _ w3 ⟨i, hi, rfl, ho, he⟩
  dsimp only
  by_cases hlt : i < k
  · refine splitW_t (decide_eq_true (by omega)) ?_
    rw [show IntKind.wrap .i64 ((8 : Int) * (n : Int)) = ((8 * n : Nat) : Int) from by rw [wrap_i64 (by omega) (by omega)]; omega]
    refine splitW_i (fun h1 => ?_) (fun h1 => ?_)
    · have h1 := of_decide_eq_true h1
      rw [flip_beyond (n := i) (k := k) (by omega) hi]
      exact bytes_ret ho he
    have h1 := of_decide_eq_false h1
    rw [show IntKind.wrap .i64 (((8 * n : Nat) : Int) - (b : Int)) = ((8 * n - b : Nat) : Int) from by rw [wrap_i64 (by omega) (by omega)]; omega]
    refine splitW_i (fun h2 => ?_) (fun h2 => ?_)
    · have h2 := of_decide_eq_true h2
      rw [flip_beyond (n := i) (k := k) (by omega) hi]
      exact bytes_ret ho he
    have h2 := of_decide_eq_false h2
    rw [wrap_u64_nat (by omega)]
    refine ⟨by omega, ?_⟩
    have eat : IntKind.wrap .i64 (Int.tdiv (IntKind.wrap .i64 ((b : Int) + (i : Int))) (8 : Int)) = (((b + i) / 8 : Nat) : Int) := by
      rw [wrap_i64 (x := (b : Int) + (i : Int)) (by omega) (by omega), show Int.tdiv ((b : Int) + (i : Int)) 8 = (((b + i) / 8 : Nat) : Int) from rfl, wrap_i64 (by omega) (by omega)]
    have er : IntKind.wrap .u64 (Int.tmod (IntKind.wrap .i64 ((b : Int) + (i : Int))) (8 : Int)) = (((b + i) % 8 : Nat) : Int) := by
      rw [wrap_i64 (x := (b : Int) + (i : Int)) (by omega) (by omega), show Int.tmod ((b : Int) + (i : Int)) 8 = (((b + i) % 8 : Nat) : Int) from rfl, wrap_u64_nat (by omega)]
    rw [eat, er]
    have hbit : Int.tmod (ishr .u32 (m.toNat : Int) (i : Int)) (2 : Int) = ((m.getLsbD i).toNat : Int) := by
      rw [ishr_nat .u32 m.toNat i (by simp [IntKind.bits]; omega), show m.getLsbD i = m.toNat.testBit i from rfl, Nat.testBit_eq_decide_div_mod_eq]
      rw [show Int.tmod ((m.toNat / 2 ^ i : Nat) : Int) (2 : Int) = ((m.toNat / 2 ^ i % 2 : Nat) : Int) from rfl]
      rcases Nat.mod_two_eq_zero_or_one (m.toNat / 2 ^ i) with h | h <;> simp [h]
    rw [hbit]
    refine splitW_i (fun h3 => ?_) (fun h3 => ?_)
    · have h3 : m.getLsbD i = true := by
        cases hc : m.getLsbD i with
        | true => rfl
        | false => rw [hc] at h3; cases h3
      refine idx_byte ho.sl (by omega) (by omega) ?_
      rw [Int.toNat_natCast]
      refine ⟨by omega, ?_⟩
      refine idx_set ho (by omega) (by omega) ?_
      intro w4 ho4 hg4
      rw [Int.toNat_natCast] at ho4
      refine ⟨⟨i + 1, by omega, ?_, ?_, he.grown hg4 ho.row⟩, ?_⟩
      · rw [wrap_i64 (by omega) (by omega)]; rfl
      · have e4 : ishl .u8 (1 : Int) (((b + i) % 8 : Nat) : Int) = ((BitVec.ofNat 8 (m.getLsbD i).toNat <<< ((b + i) % 8)).toNat : Int) := by
          rw [h3, show (1 : Int) = ((1 : Nat) : Int) from rfl, ishl_nat (k := .u8) rfl _ _ (by simp [IntKind.bits]; omega), BitVec.toNat_shiftLeft, Nat.shiftLeft_eq]
          rfl
        rw [e4, u8_toBitVec, ixor8] at ho4
        have e5 := flip_succ (bs := bs) (bit := b) (n := i) (m := m) (by omega)
        rw [e5, ← bV_set]
        exact ho4
      · rw [wrap_i64 (by omega) (by omega)]; omega
    · have h3 : m.getLsbD i = false := by
        cases hc : m.getLsbD i with
        | false => rfl
        | true => rw [hc] at h3; cases h3
      refine ⟨⟨i + 1, by omega, ?_, ?_, he⟩, ?_⟩
      · rw [wrap_i64 (by omega) (by omega)]; rfl
      · rw [flip_same h3]; exact ho
      · rw [wrap_i64 (by omega) (by omega)]; omega
  · obtain rfl : i = k := by omega
    refine splitW_f (decide_eq_false (by omega)) ?_
    exact bytes_ret ho he
end Go.Proofs.Ytlpgfcfkjkmiiaa.V
