/- Contracts of slices.Chunk, slices.Backward, octet.Of, octet.Put. -/
import Derived.Test.YtiiemgndnpflbaaHI
import Derived.Test.YtiiemgndnpflbaaHS
import Derived.Test.YtiiemgndnpflbaaKKit
import Derived.RangeFuncRecord
set_option linter.unusedVariables false
set_option linter.unusedSimpArgs false
namespace Go.Proofs.Ytiiemgndnpflbaa.V
open Go Go.Proofs Go.RowKit

def RBack (r1 : Nat) (A : Option Addr) (n c : Nat) (bs : List UInt8) : WP := fun w => Blk w r1 [.slice A n c] 35 ∧ Sl w A n (bV bs)
theorem back_calls {w : World} {A : Option Addr} {n c : Nat} {bs : List UInt8} (h : Sl w A n (bV bs)) : Calls Try.prog 54 #[.slice A n c] w (Ret fun v w' => Iter Try.prog v (backV bs) (RBack w.heap.size A n c bs) ∧ RBack w.heap.size A n c bs w' ∧ w'.heap.size = w.heap.size + 1 ∧ Ext w w') := by
  apply calls54
  unfold S54
  apply newW_i
  have he := (Ext.refl w).alloc (.cells #[.slice A n c] 35)
  refine ⟨⟨_, _, rfl, by kernel_rfl, fun l J w' hJ hR hd hY => ?_⟩, ⟨Blk.new w #[.slice A n c] 35, h.ext he⟩, by simp, he⟩
  apply calls57
  exact back_walk (P := Try.prog) hJ hR hY
theorem octput_calls {w : World} {B : Nat} {A : Option Addr} {n c : Nat} {bs : List UInt8} {v k : Nat} (h : Own 5 w B A n c (bV bs)) (hB : B ≤ w.heap.size) (hn : n ≤ 140737488355000) (hv : v < 18446744073709551616) (hk1 : 1 ≤ k) (hk : k ≤ 8) :
    Calls Try.prog 27 #[.slice A n c, .int .u64 (v : Int), .int .i64 (k : Int)] w (Ret fun r w' => ∃ x : Option Addr × Nat × Nat, r = .slice x.1 x.2.1 x.2.2 ∧ Own 5 w' B x.1 x.2.1 x.2.2 (bV (bs ++ le k v)) ∧ Grew w w' (orow A) (orow x.1)) := by
  apply calls27
  unfold S27
  refine splitW_f (decide_eq_false (by omega)) ?_
  refine splitW_f (decide_eq_false (by omega)) ?_
  refine loopW_i (fun x w' => ∃ (A' : Option Addr) (c' i : Nat), i ≤ k ∧ x = ((A', n + i, c'), (i : Int), ()) ∧ Own 5 w' B A' (n + i) c' (bV (bs ++ le i v)) ∧ Grew w w' (orow A) (orow A')) (fun x => (k - x.2.1).toNat)
    ⟨A, c, 0, by omega, rfl, by simpa [le] using h, Grew.refl _ _⟩ ?_
  rintro _ w' ⟨A', c', i, hi, rfl, ho, hg⟩
  dsimp only
  have hB' : B ≤ w'.heap.size := Nat.le_trans hB hg.grown.size
  by_cases hlt : i < k
  · refine splitW_t (decide_eq_true (by omega)) ?_
    have e1 : IntKind.wrap .i64 ((8 : Int) * (i : Int)) = ((8 * i : Nat) : Int) := by
      rw [wrap_i64 (by omega) (by omega)]
      omega
    rw [e1]
    refine ⟨by omega, ?_⟩
    rw [ishr_nat .u64 v (8 * i) (by simp [IntKind.bits]; omega), wrap_u8_nat, Nat.pow_mul, show (2 : Nat) ^ 8 = 256 from rfl]
    have hone : ∀ y ∈ [Value.int .u8 ((UInt8.ofNat (v / 256 ^ i)).toNat : Int)], y.oneCell' = true := by
      intro y hy
      simp only [List.mem_singleton] at hy
      subst hy
      rfl
    refine append_new (ys := [Value.int .u8 ((UInt8.ofNat (v / 256 ^ i)).toNat : Int)]) elem_u8 ho hB' hone (by simp; omega) (by omega) ?_
    intro A2 c2 w2 ho2 hg2
    refine ⟨⟨A2, c2, i + 1, by omega, ?_, ?_, ?_⟩, ?_⟩
    · rw [wrap_i64 (by omega) (by omega)]; rfl
    · have e2 : bV (bs ++ le (i + 1) v) = bV (bs ++ le i v) ++ [Value.int .u8 ((UInt8.ofNat (v / 256 ^ i)).toNat : Int)] := by
        rw [le_succ, ← List.append_assoc, bV_append (bs ++ le i v)]
        rfl
      rw [e2]
      exact ho2
    · exact hg.step hg2
    · rw [wrap_i64 (by omega) (by omega)]; omega
  · obtain rfl : i = k := by omega
    refine splitW_f (decide_eq_false (by omega)) ?_
    exact ⟨(A', n + i, c'), rfl, ho, hg⟩
theorem lev_drop {bs : List UInt8} {j : Nat} (h : j < bs.length) : lev (bs.drop j) = (bs.getD j 0).toNat + 256 * lev (bs.drop (j + 1)) := by
  rw [List.drop_eq_getElem_cons h]
  simp [lev, h]
theorem octof_calls {w : World} {A : Option Addr} {n c : Nat} {bs : List UInt8} (h : Sl w A n (bV bs)) (hn : n ≤ 8) : Calls Try.prog 47 #[.slice A n c] w (Ret fun v w' => v = .int .u64 (lev bs : Int) ∧ Ext w w') := by
  apply calls47
  unfold S47
  have hl := h.blen
  apply newW_i
  have hr := Blk.new w #[.int .u64 (0 : Int)] 22
  have he := (Ext.refl w).alloc (.cells #[.int .u64 (0 : Int)] 22)
  generalize w.alloc (.cells #[.int .u64 (0 : Int)] 22) = w1 at hr he ⊢
  generalize hrr : w.heap.size = r at hr ⊢
  refine splitW_f (decide_eq_false (by omega)) ?_
  refine callW_of (back_calls (c := c) (h.ext he)) ?_
  rintro v w2 ⟨hit, hRb, hs2, he2⟩
  refine ⟨v, rfl, ?_⟩
  have hr2 := hr.ext he2
  have hrlt := hr.lt
  have he02 := he.trans he2
  have hsl : ∀ w', Ext w w' → Sl w' A n (bV bs) := fun w' e => h.ext e
  refine range_i (R := RBack w1.heap.size A n c bs) (fun i w' => Ext w w' ∧ Blk w' w1.heap.size [.slice A n c] 35 ∧ Blk w' r [.int .u64 (lev (bs.drop (n - i)) : Int)] 22) hit (fun i w' hI => ⟨hI.2.1, hsl _ hI.1⟩) (fun i w' hI => ⟨hI.1.drew, hI.2.1, hI.2.2⟩) ?_ ?_ ?_ ?_
  · rintro i w' w'' hsb ⟨h1, h2, h3⟩
    have hge : w.heap.size ≤ w2.heap.size := he02.size
    refine ⟨?_, ?_, ?_⟩
    · exact ⟨hsb.1.trans h1.os, hsb.2.1.trans h1.tape, hsb.2.2.1.trans h1.output, by have := h1.size; have := hsb.2.2.2.1; omega, fun k hk => (hsb.2.2.2.2 k (by omega) (by omega)).trans (h1.block k hk)⟩
    · exact (hsb.2.2.2.2 _ (by omega) (by omega)).trans h2
    · exact (hsb.2.2.2.2 _ (by omega) (by omega)).trans h3
  · intro o
    refine ⟨(he02.alloc _).alloc _, (hRb.1.alloc _).alloc _, ?_⟩
    have e : bs.drop (n - 0) = [] := List.drop_of_length_le (by omega)
    rw [e]
    exact (hr2.alloc _).alloc _
  · intro i hi w' N jump hI hsz hN
    rw [backV_length] at hi
    refine ⟨((bs.length - 1 - i : Nat), ((bs.getD (bs.length - 1 - i) 0).toNat : Int), ()), by simp [backV], ?_⟩
    obtain ⟨h1, h2, h3⟩ := hI
    dsimp only
    refine ldW_blk (x := (lev (bs.drop (n - i)) : Int)) h3 (by rfl) ?_
    refine stW_blk h3 (by simp) ?_
    have hb := (bs.getD (bs.length - 1 - i) 0).toNat_lt
    have hlv := lev_lt (bs.drop (n - i))
    have hlen : (bs.drop (n - i)).length = i := by rw [List.length_drop]; omega
    rw [hlen] at hlv
    have hpow : 256 ^ i * 256 ≤ 18446744073709551616 := by
      rw [show 256 ^ i * 256 = 256 ^ (i + 1) from rfl, show 18446744073709551616 = 256 ^ 8 from rfl]
      exact Nat.pow_le_pow_right (by omega) (by omega)
    have e1 : ior .u64 (ishl .u64 (lev (bs.drop (n - i)) : Int) (8 : Int)) (IntKind.wrap .u64 ((bs.getD (bs.length - 1 - i) 0).toNat : Int)) = (lev (bs.drop (n - (i + 1))) : Int) := by
      rw [show (8 : Int) = ((8 : Nat) : Int) from rfl, wrap_u64_nat (by omega), ishl_nat (k := .u64) rfl _ 8 (by simp [IntKind.bits])]
      rw [Nat.mod_eq_of_lt (show lev (bs.drop (n - i)) * 2 ^ 8 < 2 ^ IntKind.bits .u64 by show _ < 18446744073709551616; omega)]
      rw [ior_nat (k := .u64) rfl (show lev (bs.drop (n - i)) * 2 ^ 8 < 2 ^ IntKind.bits .u64 by show _ < 18446744073709551616; omega) (show _ < 18446744073709551616 by omega)]
      rw [Nat.mul_comm, ← Nat.two_pow_add_eq_or_of_lt (by omega)]
      have e2 : n - (i + 1) = bs.length - 1 - i := by omega
      rw [e2, lev_drop (j := bs.length - 1 - i) (by omega), show bs.length - 1 - i + 1 = n - i by omega]
      congr 1
      omega
    rw [e1]
    have hset := h3.set 0 (.int .u64 (lev (bs.drop (n - (i + 1))) : Int))
    refine hN _ ⟨h1.set (by simp only; omega) _, h2.other (by simp only; omega) _, hset⟩ (by simp) (fun k hk => ?_)
    exact Below.heap_setCell _ _ _ _ (by simp only; omega)
  · intro w' hI hsz hd
    obtain ⟨h1, h2, h3⟩ := hI
    rw [backV_length] at h3
    have e : bs.drop (n - bs.length) = bs := by rw [show n - bs.length = 0 by omega]; rfl
    rw [e] at h3
    show (ldW _ _ _) w'
    refine ldW_blk (x := (lev bs : Int)) h3 (by rfl) ?_
    refine stW_blk h3 (by simp) ?_
    have hset := h3.set 0 (.int .u64 (lev bs : Int))
    refine leave_i (by rw [Below.heap_setCell _ _ _ _ (by simp only; omega)]; exact hd) ?_
    show (ldW _ _ _) _
    refine ldW_blk (x := (lev bs : Int)) (show Blk _ r [.int .u64 (lev bs : Int)] 22 from ?_) (by rfl) ?_
    · exact (setO_other (by omega)).trans hset
    · exact ⟨rfl, (h1.set (by simp only; omega) _).setO (by have := he02.size; omega) _⟩
end Go.Proofs.Ytiiemgndnpflbaa.V
