/- Iterators: slices.Chunk's and slices.Backward's inner functions, told of any program. -/
import Derived.Test.YtpbjbhcejgnhiaaDoorHR
set_option linter.unusedVariables false
set_option linter.unusedSimpArgs false
namespace Go.Proofs.YtpbjbhcejgnhiaaDoor.V
open Go

/-- What slices.Chunk$1 does. -/
def ChunkW (P : Program) (z : Nat) (x0 : Value) (a1 : Addr) (a2 : Addr) (K : Value → WP) : WP :=
  loopW (Int × Unit) ((0 : Int), ()) fun (y2 : Int × Unit) (I1 : (Int × Unit) → WP) =>
  ldW .slc a1 fun (u3 : (Option Addr × Nat × Nat)) =>
  splitW (decide (y2.1 < ((u3.2.1 : Nat) : Int))) (drewW <|
  ldW (.int .i64) a2 fun (u4 : Int) =>
  ldW .slc a1 fun (u5 : (Option Addr × Nat × Nat)) =>
  guardW (0 ≤ y2.1 ∧ y2.1 ≤ ((u5.2.1 : Nat) : Int)) <|
  ldW .slc a1 fun (u6 : (Option Addr × Nat × Nat)) =>
  guardW (0 ≤ y2.1 ∧ y2.1 ≤ (IntKind.wrap .i64 (y2.1 + (if (((u5.2.1 - (Int.toNat y2.1)) : Nat) : Int) < u4 then (((u5.2.1 - (Int.toNat y2.1)) : Nat) : Int) else u4))) ∧ (IntKind.wrap .i64 (y2.1 + (if (((u5.2.1 - (Int.toNat y2.1)) : Nat) : Int) < u4 then (((u5.2.1 - (Int.toNat y2.1)) : Nat) : Int) else u4))) ≤ (IntKind.wrap .i64 (y2.1 + (if (((u5.2.1 - (Int.toNat y2.1)) : Nat) : Int) < u4 then (((u5.2.1 - (Int.toNat y2.1)) : Nat) : Int) else u4))) ∧ (IntKind.wrap .i64 (y2.1 + (if (((u5.2.1 - (Int.toNat y2.1)) : Nat) : Int) < u4 then (((u5.2.1 - (Int.toNat y2.1)) : Nat) : Int) else u4))) ≤ ((u6.2.2 : Nat) : Int)) <|
  callVW P x0 [(.slice (cutAddr u6.1 (Int.toNat y2.1) (Int.toNat (IntKind.wrap .i64 (y2.1 + (if (((u5.2.1 - (Int.toNat y2.1)) : Nat) : Int) < u4 then (((u5.2.1 - (Int.toNat y2.1)) : Nat) : Int) else u4)))) z) ((Int.toNat (IntKind.wrap .i64 (y2.1 + (if (((u5.2.1 - (Int.toNat y2.1)) : Nat) : Int) < u4 then (((u5.2.1 - (Int.toNat y2.1)) : Nat) : Int) else u4)))) - (Int.toNat y2.1)) ((Int.toNat (IntKind.wrap .i64 (y2.1 + (if (((u5.2.1 - (Int.toNat y2.1)) : Nat) : Int) < u4 then (((u5.2.1 - (Int.toNat y2.1)) : Nat) : Int) else u4)))) - (Int.toNat y2.1)))] (.one (.one .bool)) fun (u7 : Bool) =>
  splitW (!u7) (K (.tuple #[])) <|
  ldW (.int .i64) a2 fun (u8 : Int) => I1 ((IntKind.wrap .i64 (y2.1 + u8)), ())) <| K (.tuple #[])
def cutsN (n k : Nat) : Nat := (n + k - 1) / k
theorem cutsN_lt {n k i : Nat} (hk : 1 ≤ k) : i < cutsN n k ↔ i * k < n := by
  unfold cutsN
  rw [Nat.lt_iff_add_one_le, Nat.le_div_iff_mul_le (by omega), Nat.succ_mul]
  omega
/-- The cuts of a slice, of k each. -/
def cutsV (z : Nat) (A : Option Addr) (n k : Nat) : List (List Value) := (List.range (cutsN n k)).map fun i => [.slice (cutAddr A (i * k) (i * k + min k (n - i * k)) z) (min k (n - i * k)) (min k (n - i * k))]
theorem cutsV_length (z : Nat) (A : Option Addr) (n k : Nat) : (cutsV z A n k).length = cutsN n k := by simp [cutsV]
theorem chunk_walk {P : Program} {z r1 r2 l n c k : Nat} {A : Option Addr} {t1 t2 : TypeId} {J : Nat → WP} {w : World} (hk : 1 ≤ k) (hnc : n ≤ c) (hnk : n + k ≤ 9223372036854775807) (h0 : J 0 w)
    (hR : ∀ i w', J i w' → Blk w' r1 [.slice A n c] t1 ∧ Blk w' r2 [.int .i64 (k : Int)] t2) (hd : ∀ i w', J i w' → J i w'.drew)
    (hY : ∀ i w' (h : i < (cutsV z A n k).length), J i w' → YieldAt P l (cutsV z A n k)[i] w' fun v w'' => v = .bool true ∧ J (i + 1) w'') :
    ChunkW P z (.func (.yield l) #[] #[]) ⟨r1, 0, none⟩ ⟨r2, 0, none⟩ (fun _ w' => J (cutsV z A n k).length w') w := by
  unfold ChunkW
  rw [cutsV_length]
  refine loopW_i (fun y w' => ∃ i : Nat, i ≤ cutsN n k ∧ y = (((i * k : Nat) : Int), ()) ∧ J i w') (fun y => ((n : Int) + k - y.1).toNat) ⟨0, by omega, by simp, h0⟩ ?_
  rintro _ w' ⟨i, hi, rfl, hJ⟩
  dsimp only
  obtain ⟨h1, h2⟩ := hR i w' hJ
  refine ldW_blk (x := (A, n, c)) h1 (by rfl) ?_
  dsimp only
  by_cases hlt : i * k < n
  · refine splitW_t (decide_eq_true (by omega)) ?_
    have hJ' := hd i w' hJ
    obtain ⟨h1, h2⟩ := hR i _ hJ'
    show (ldW _ _ _) w'.drew
    generalize w'.drew = w1 at hJ' h1 h2 ⊢
    refine ldW_blk (x := (k : Int)) h2 (by rfl) ?_
    refine ldW_blk (x := (A, n, c)) h1 (by rfl) ?_
    dsimp only
    refine ⟨⟨by omega, by omega⟩, ?_⟩
    refine ldW_blk (x := (A, n, c)) h1 (by rfl) ?_
    dsimp only
    have e : IntKind.wrap .i64 (((i * k : Nat) : Int) + (if (((n - Int.toNat ((i * k : Nat) : Int)) : Nat) : Int) < (k : Int) then (((n - Int.toNat ((i * k : Nat) : Int)) : Nat) : Int) else (k : Int))) = ((i * k + min k (n - i * k) : Nat) : Int) := by
      rw [Int.toNat_natCast]
      generalize i * k = m at hlt ⊢
      split <;> rw [wrap_i64 (by omega) (by omega)] <;> omega
    rw [e]
    refine ⟨⟨by omega, by omega, by omega, by omega⟩, ?_⟩
    rw [Int.toNat_natCast, Int.toNat_natCast, Nat.add_sub_cancel_left]
    have hlt' : i < (cutsV z A n k).length := by rw [cutsV_length]; exact (cutsN_lt hk).2 hlt
    refine .inr ⟨l, rfl, ?_⟩
    have hy := hY i w1 hlt' hJ'
    have el : (cutsV z A n k)[i] = [.slice (cutAddr A (i * k) (i * k + min k (n - i * k)) z) (min k (n - i * k)) (min k (n - i * k))] := by simp [cutsV]
    rw [el] at hy
    obtain ⟨fn, tmps, as, bd, hy1, hy2⟩ := hy
    refine ⟨fn, tmps, as, bd, hy1, RoundIn.mono hy2 ?_⟩
    rintro (v | x | _) w2 hv
    · obtain ⟨rfl, hJ2⟩ := hv
      refine ⟨true, rfl, ?_⟩
      refine splitW_f (by rfl) ?_
      obtain ⟨h1, h2⟩ := hR _ _ hJ2
      refine ldW_blk (x := (k : Int)) h2 (by rfl) ?_
      rw [wrap_i64 (by omega) (by omega)]
      refine ⟨⟨i + 1, by rw [cutsV_length] at hlt'; omega, by rw [Nat.succ_mul]; rfl, hJ2⟩, ?_⟩
      generalize i * k = m at hlt ⊢
      omega
    · exact hv
    · exact hv
  · refine splitW_f (decide_eq_false (by omega)) ?_
    have : i = cutsN n k := by
      rcases Nat.lt_or_ge i (cutsN n k) with h | h
      · exact absurd ((cutsN_lt hk).1 h) hlt
      · omega
    subst this
    exact hJ
/-- What slices.Backward$1 does, of bytes. -/
def BackW (P : Program) (x0 : Value) (a1 : Addr) (K : Value → WP) : WP :=
  ldW .slc a1 fun (u1 : (Option Addr × Nat × Nat)) =>
  loopW (Int × Unit) ((IntKind.wrap .i64 (((u1.2.1 : Nat) : Int) - (1 : Int))), ()) fun (y3 : Int × Unit) (I2 : (Int × Unit) → WP) =>
  splitW (decide (y3.1 ≥ (0 : Int))) (ldW .slc a1 fun (u4 : (Option Addr × Nat × Nat)) =>
  guardW (0 ≤ y3.1 ∧ y3.1 < ((u4.2.1 : Nat) : Int)) <|
  ptrW u4.1 fun (p5 : Addr) =>
  ldW (.int .u8) (p5.add (Int.toNat y3.1 * 1)) fun (u6 : Int) =>
  callVW P x0 [(.int .i64 y3.1), (.int .u8 u6)] (.one (.one .bool)) fun (u7 : Bool) =>
  splitW (!u7) (K (.tuple #[])) <| I2 ((IntKind.wrap .i64 (y3.1 - (1 : Int))), ())) <| K (.tuple #[])
def backV (bs : List UInt8) : List (List Value) := (List.range bs.length).map fun i => [.int .i64 ((bs.length - 1 - i : Nat) : Int), .int .u8 ((bs.getD (bs.length - 1 - i) 0).toNat : Int)]
theorem backV_length (bs : List UInt8) : (backV bs).length = bs.length := by simp [backV]
theorem back_walk {P : Program} {r1 l n c : Nat} {A : Option Addr} {bs : List UInt8} {t1 : TypeId} {J : Nat → WP} {w : World} (h0 : J 0 w)
    (hR : ∀ i w', J i w' → Blk w' r1 [.slice A n c] t1 ∧ Sl w' A n (bV bs))
    (hY : ∀ i w' (h : i < (backV bs).length), J i w' → YieldAt P l (backV bs)[i] w' fun v w'' => v = .bool true ∧ J (i + 1) w'') :
    BackW P (.func (.yield l) #[] #[]) ⟨r1, 0, none⟩ (fun _ w' => J (backV bs).length w') w := by
  unfold BackW
  rw [backV_length]
  obtain ⟨h1, h2⟩ := hR 0 w h0
  have hl := h2.blen
  have hle := h2.le
  refine ldW_blk (x := (A, n, c)) h1 (by rfl) ?_
  dsimp only
  rw [wrap_i64 (by omega) (by omega)]
  refine loopW_i (fun y w' => ∃ i : Nat, i ≤ n ∧ y = ((n : Int) - 1 - i, ()) ∧ J i w') (fun y => (y.1 + 1).toNat) ⟨0, by omega, by simp, h0⟩ ?_
  rintro _ w' ⟨i, hi, rfl, hJ⟩
  dsimp only
  by_cases hlt : i < n
  · refine splitW_t (decide_eq_true (by omega)) ?_
    obtain ⟨h1, h2⟩ := hR i w' hJ
    refine ldW_blk (x := (A, n, c)) h1 (by rfl) ?_
    dsimp only
    refine idx_byte h2 (by omega) (by omega) ?_
    have hlt' : i < (backV bs).length := by rw [backV_length]; omega
    refine .inr ⟨l, rfl, ?_⟩
    have hy := hY i w' hlt' hJ
    have el : (backV bs)[i] = [.int .i64 ((n : Int) - 1 - i), .int .u8 ((bs.getD (Int.toNat ((n : Int) - 1 - i)) 0).toNat : Int)] := by
      have e1 : ((bs.length - 1 - i : Nat) : Int) = (n : Int) - 1 - i := by omega
      have e2 : Int.toNat ((n : Int) - 1 - i) = bs.length - 1 - i := by omega
      rw [e2, ← e1]
      simp [backV]
    rw [el] at hy
    obtain ⟨fn, tmps, as, bd, hy1, hy2⟩ := hy
    refine ⟨fn, tmps, as, bd, hy1, RoundIn.mono hy2 ?_⟩
    rintro (v | x | _) w2 hv
    · obtain ⟨rfl, hJ2⟩ := hv
      refine ⟨true, rfl, ?_⟩
      refine splitW_f (by rfl) ?_
      rw [wrap_i64 (by omega) (by omega)]
      exact ⟨⟨i + 1, by omega, by congr 1; omega, hJ2⟩, by omega⟩
    · exact hv
    · exact hv
  · refine splitW_f (decide_eq_false (by omega)) ?_
    obtain rfl : i = bs.length := by omega
    exact hJ
end Go.Proofs.YtpbjbhcejgnhiaaDoor.V
