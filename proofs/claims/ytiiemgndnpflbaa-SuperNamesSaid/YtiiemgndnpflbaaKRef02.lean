/- Contracts of the document's answer, chapter 2. -/
import Derived.Test.YtiiemgndnpflbaaKCrc
set_option linter.unusedVariables false
set_option linter.unusedSimpArgs false
namespace Go.Proofs.Ytiiemgndnpflbaa.V
open Go Go.Proofs Crc
theorem rupdate_calls {w : World} {T : List W32} {s : W32} {A : Option Addr} {n c : Nat} {bs : List UInt8} (hT : T.length = 256) (h : Sl w A n (bV bs)) :
    Calls Try.prog 55 #[.agg (tabV T).toArray, .int .u32 (s.toNat : Int), .slice A n c] w (Ret fun v w' => v = .int .u32 ((upd T s bs).toNat : Int) ∧ Ext w w') := by
  apply calls55
  unfold S55
  apply newW_i
  have hb0 : Blk (w.alloc (.cells (tabV T).toArray 78)) w.heap.size (tabV T) 78 := by simpa using Blk.new w (tabV T).toArray _
  have he0 : Ext w (w.alloc (.cells (tabV T).toArray 78)) := (Ext.refl w).alloc _
  have hl := h.blen
  have hn := h.le
  generalize w.alloc (.cells (tabV T).toArray 78) = w1 at hb0 he0 ⊢
  refine loopW_i (fun x w' => w' = w1 ∧ ∃ i : Nat, i ≤ n ∧ x = (((upd T s (bs.take i)).toNat : Int), (i : Int), ())) (fun x => (n - x.2.1).toNat) ⟨rfl, 0, by omega, by simp [upd]⟩ ?_
  rintro _ w' ⟨rfl, i, hi, rfl⟩
  dsimp only
  have h1 := h.ext he0
  by_cases hlt : i < n
  · refine splitW_t (decide_eq_true (by omega)) ?_
    refine idx_byte h1 (by omega) (by omega) ?_
    have hidx : ixor .u8 (IntKind.wrap .u8 ((upd T s (bs.take i)).toNat : Int)) ((bs.getD (Int.toNat (i : Int)) 0).toNat : Int) = ((((upd T s (bs.take i)).setWidth 8) ^^^ (bs.getD i 0).toBitVec).toNat : Int) := by
      rw [wrap_u8_bv32, u8_toBitVec, ixor8]; rfl
    rw [hidx]
    have hx : (((upd T s (bs.take i)).setWidth 8) ^^^ (bs.getD i 0).toBitVec).toNat < 256 := (((upd T s (bs.take i)).setWidth 8) ^^^ (bs.getD i 0).toBitVec).isLt
    refine ⟨⟨by omega, by omega⟩, ?_⟩
    rw [Int.toNat_natCast, Nat.mul_one, add_mk, Nat.zero_add]
    refine ldW_blk hb0 (tabV_get (by omega)) ?_
    rw [wrap_i64_nat (by omega) (by omega)]
    refine ⟨⟨rfl, i + 1, by omega, ?_⟩, by omega⟩
    rw [show ishr .u32 ((upd T s (bs.take i)).toNat : Int) (8 : Int) = ((upd T s (bs.take i) >>> 8).toNat : Int) from ishr32 _ 8 (by omega), ixor32]
    have e : upd T s (bs.take (i + 1)) = Crc.step T (upd T s (bs.take i)) (bs.getD i 0) := by
      rw [List.take_succ_eq_append_getElem (by omega)]
      simp only [upd, List.foldl_append, List.foldl_cons, List.foldl_nil]
      rw [List.getD_eq_getElem?_getD, List.getElem?_eq_getElem (by omega)]
      rfl
    rw [e]
    rfl
  · obtain rfl : i = n := by omega
    refine splitW_f (decide_eq_false (by omega)) ?_
    rw [List.take_of_length_le (by omega)]
    exact ⟨rfl, he0⟩

theorem rtable_calls (w : World) : Calls Try.prog 49 #[] w (Ret fun v w' => v = .agg (tabV table).toArray ∧ Ext w w') := by
  apply calls49
  unfold S49
  apply newW_i
  have he00 : Ext w (w.alloc (.cells (zeroC Try.prog 78) 78)) := (Ext.refl w).alloc _
  have hb00 : Blk (w.alloc (.cells (zeroC Try.prog 78) 78)) w.heap.size (zeroC Try.prog 78).toList 78 := Blk.new w _ _
  generalize w.alloc (.cells (zeroC Try.prog 78) 78) = w0 at he00 hb00 ⊢
  apply newW_i
  have hz : (zeroC Try.prog 78).toList = List.replicate 256 (.int .u32 0) := by kernel_rfl
  have hb0 : Blk (w0.alloc (.cells (zeroC Try.prog 78) 78)) w0.heap.size (List.replicate 256 (.int .u32 0)) 78 := by rw [← hz]; exact Blk.new w0 _ _
  have hb01 := hb00.alloc (.cells (zeroC Try.prog 78) 78)
  rw [hz] at hb01
  have hne : w.heap.size < w0.heap.size := hb00.lt
  have he0 : Ext w (w0.alloc (.cells (zeroC Try.prog 78) 78)) := he00.alloc _
  generalize w0.alloc (.cells (zeroC Try.prog 78) 78) = w1 at hb0 he0 hb01 ⊢
  refine loopW_i (fun x w' => Ext w w' ∧ ∃ i : Nat, i ≤ 256 ∧ x = ((i : Int), ()) ∧ Blk w' w0.heap.size (tabV (table.take i) ++ List.replicate (256 - i) (.int .u32 0)) 78 ∧ Blk w' w.heap.size (List.replicate 256 (.int .u32 0)) 78) (fun x => (256 - x.1).toNat) ⟨he0, 0, by omega, rfl, hb0, hb01⟩ ?_
  rintro _ w' ⟨he, i, hi, rfl, hb, hbr⟩
  dsimp only
  by_cases hlt : i < 256
  · refine splitW_t (decide_eq_true (by omega)) ?_
    have e0 : IntKind.wrap .u32 (i : Int) = ((BitVec.ofNat 32 i).toNat : Int) := by
      rw [wrap_u32, BitVec.toNat_ofNat]; simp only [Nat.reducePow]; omega
    rw [e0]
    refine loopW_i (fun x w'' => w'' = w' ∧ ∃ k : Nat, k ≤ 8 ∧ x = (((bsteps k (BitVec.ofNat 32 i)).toNat : Int), (k : Int), ())) (fun x => (8 - x.2.1).toNat) ⟨rfl, 0, by omega, rfl⟩ ?_
    rintro _ _ ⟨rfl, k, hk, rfl⟩
    dsimp only
    by_cases hk8 : k < 8
    · refine splitW_t (decide_eq_true (by omega)) ?_
      rw [wrap_i64_nat (by omega) (by omega)]
      generalize hv : bsteps k (BitVec.ofNat 32 i) = v
      have e1 : bsteps (k + 1) (BitVec.ofNat 32 i) = bstep v := by rw [bsteps_add, hv]; rfl
      have hlsb : v.getLsbD 0 = v.toNat.testBit 0 := rfl
      have e2 : Int.tmod (v.toNat : Int) (2 : Int) = ((v.toNat % 2 : Nat) : Int) := rfl
      have e3 : ishr .u32 (v.toNat : Int) (1 : Int) = ((v >>> 1).toNat : Int) := ishr32 v 1 (by omega)
      rw [e2, e3]
      refine splitW_i (fun h => ?_) (fun h => ?_)
      · have h1 : v.toNat % 2 = 1 := by have := of_decide_eq_true h; omega
        refine ⟨⟨rfl, k + 1, by omega, ?_⟩, by omega⟩
        rw [e1, bstep, hlsb, Nat.testBit_zero, h1, show ixor .u32 ((v >>> 1).toNat : Int) (2197175160 : Int) = ((v >>> 1 ^^^ poly).toNat : Int) from ixor32 _ poly]
        rfl
      · have h1 : v.toNat % 2 = 0 := by have := of_decide_eq_false h; omega
        refine ⟨⟨rfl, k + 1, by omega, ?_⟩, by omega⟩
        rw [e1, bstep, hlsb, Nat.testBit_zero, h1]
        simp
    · obtain rfl : k = 8 := by omega
      refine splitW_f (decide_eq_false (by omega)) ?_
      refine ⟨⟨by omega, by omega⟩, ?_⟩
      rw [Int.toNat_natCast, Nat.mul_one, add_mk, Nat.zero_add]
      refine stW_blk hb (by simp [length_tabV, table]; omega) ?_
      rw [wrap_i64_nat (by omega) (by omega)]
      refine ⟨⟨he.set (Nat.le_of_lt hne) _, i + 1, by omega, rfl, ?_, hbr.other (by simp only; omega) _⟩, by omega⟩
      have h2 := hb.set i (.int .u32 ((bsteps 8 (BitVec.ofNat 32 i)).toNat : Int))
      have e3 : (tabV (table.take i) ++ List.replicate (256 - i) (Value.int .u32 0)).set i (.int .u32 ((bsteps 8 (BitVec.ofNat 32 i)).toNat : Int)) = tabV (table.take (i + 1)) ++ List.replicate (256 - (i + 1)) (Value.int .u32 0) := by
        have ht : (tabV (table.take i)).length = i := by simp [length_tabV, table]; omega
        rw [List.set_append_right _ _ (by omega), ht, Nat.sub_self, show 256 - i = (256 - (i + 1)) + 1 by omega, List.replicate_succ, List.set_cons_zero]
        rw [List.take_add_one, show table[i]? = some (entry i) by simp [table, hlt]]
        simp [tabV, entry]
      rw [e3] at h2
      exact h2
  · obtain rfl : i = 256 := by omega
    refine splitW_f (decide_eq_false (by omega)) ?_
    have hb2 : Blk w' w0.heap.size (tabV table) 78 := by
      have : table.take 256 = table := List.take_of_length_le (by simp [table])
      rw [this] at hb
      simpa using hb
    have hlen : (tabV table).length = 256 := by simp [length_tabV, table]
    have hone : ∀ v ∈ tabV table, v.oneCell' = true := by
      intro v hv
      obtain ⟨t, _, rfl⟩ := List.mem_map.1 hv
      rfl
    generalize tabV table = TT at hb2 hlen hone ⊢
    refine ⟨TT.toArray, by simpa using hlen, hb2.cellsAt, by simpa using hlen, ?_, ?_⟩
    · exact hbr.storable_from TT 0 (by rw [hlen, List.length_replicate]; omega) hone
    · have hb3 := hbr.setCells TT (by rw [hlen, List.length_replicate])
      exact ⟨TT.toArray, by simpa using hlen, hb3.cellsAt, rfl, he.setCells (Nat.le_refl _) _ _ _⟩
theorem rsum_calls {w : World} {T : List W32} {A : Option Addr} {n c : Nat} {bs : List UInt8} (hT : T.length = 256) (h : Sl w A n (bV bs)) :
    Calls Try.prog 48 #[.agg (tabV T).toArray, .slice A n c] w (Ret fun v w' => v = .int .u32 ((sum T bs).toNat : Int) ∧ Ext w w') := by
  apply calls48
  unfold S48
  apply newW_i
  have hb0 : Blk (w.alloc (.cells (tabV T).toArray 78)) w.heap.size (tabV T) 78 := by simpa using Blk.new w (tabV T).toArray _
  have he0 : Ext w (w.alloc (.cells (tabV T).toArray 78)) := (Ext.refl w).alloc _
  have hlen : (tabV T).length = 256 := by rw [length_tabV, hT]
  generalize w.alloc (.cells (tabV T).toArray 78) = w1 at hb0 he0 ⊢
  refine ldR_blk (cs := (tabV T).toArray) hb0 (by simpa using hlen) ?_
  have hc := rupdate_calls (w := w1) (T := T) (s := 4294967295#32) (c := c) hT (h.ext he0)
  refine callW_of hc ?_
  rintro _ w2 ⟨rfl, he⟩
  refine ⟨_, rfl, ?_⟩
  rw [inot32]
  exact ⟨rfl, he0.trans he⟩
theorem rcrc_calls {w : World} {A : Option Addr} {n c : Nat} {bs : List UInt8} (h : Sl w A n (bV bs)) : Calls Try.prog 37 #[.slice A n c] w (Ret fun v w' => v = .int .u32 ((crc bs).toNat : Int) ∧ Ext w w') := by
  apply calls37
  unfold S37
  refine callW_of (rtable_calls w) ?_
  rintro _ w1 ⟨rfl, he⟩
  refine ⟨(tabV table).toArray, rfl, ?_⟩
  refine callW_of (rsum_calls (by simp [table]) (h.ext he)) ?_
  rintro _ w2 ⟨rfl, he2⟩
  exact ⟨_, rfl, rfl, he.trans he2⟩
end Go.Proofs.Ytiiemgndnpflbaa.V
