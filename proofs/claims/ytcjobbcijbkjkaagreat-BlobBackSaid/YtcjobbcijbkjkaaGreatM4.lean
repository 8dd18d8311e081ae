/- Texts of mine, merged (wip/tool/merge.py): KGeo, HI, KKit, KIter, Crc, Crc2, KCrc, KRef02, KKit2, HD, Shelf, KRead, KDev, HR2, KDev2, HH, KDev3, KDev4, KFrame. -/
import Derived.Test.YtcjobbcijbkjkaaGreatM2
import Derived.Test.YtcjobbcijbkjkaaGreatM3
import Derived.Test.YtcjobbcijbkjkaaGreatM1
import Derived.RangeFuncRecord
import Derived.Shelf.Strings.Builder1
import Derived.Shelf.Strings.Builder2
import Derived.Shelf.Strings.BuilderF
import Derived.Shelf.Strings.BuilderK
import Derived.Shelf.Strings.Builder2Cap
import Derived.Shelf.Strings.Prefix
import Derived.Shelf.Bits.Mul64
import Derived.Shelf.Strings.Repeat
import Derived.Shelf.Strings.BuilderCap
import Derived.Ground.SlgnProg
import Derived.Shelf.SlicesE.Clone
import Derived.Test.YtcjobbcijbkjkaaGreatProg
import Derived.Laws.CopyRow
/- Geometries, rooms: contracts. -/
set_option linter.unusedVariables false
set_option linter.unusedSimpArgs false
namespace Go.Proofs.YtcjobbcijbkjkaaGreat.V
open Go Go.Proofs Go.RowKit

/-- A geometry that may be. -/
def geoOK (size blocks : Int) : Bool := decide (128 ≤ size ∧ size ≤ 4096 ∧ Int.tmod size 64 = 0 ∧ 8 ≤ blocks ∧ blocks ≤ 4096)
theorem devcheck_calls (w : World) (size blocks : Int) : Calls Tryz.prog 62 #[.agg #[.int .i64 size, .int .i64 blocks]] w (Ret fun v w' => v = .int .i64 (if geoOK size blocks then 0 else 2) ∧ Ext w w') := by
  apply calls62
  unfold S62
  apply newW_i
  have hb : Blk (w.alloc (.cells #[(.int .i64 size), (.int .i64 blocks)] 28)) w.heap.size [(.int .i64 size), (.int .i64 blocks)] 28 := Blk.new w _ _
  have he : Ext w (w.alloc (.cells #[(.int .i64 size), (.int .i64 blocks)] 28)) := (Ext.refl w).alloc _
  generalize w.alloc (.cells #[(.int .i64 size), (.int .i64 blocks)] 28) = w1 at hb he ⊢
  have bad : ¬ (128 ≤ size ∧ size ≤ 4096 ∧ Int.tmod size 64 = 0 ∧ 8 ≤ blocks ∧ blocks ≤ 4096) → (Value.int .i64 2 = .int .i64 (if geoOK size blocks then 0 else 2) ∧ Ext w w1) := fun h => by
    unfold geoOK
    rw [decide_eq_false h]
    exact ⟨rfl, he⟩
  refine ldW_blk hb (by rfl) ?_
  refine splitW_i (fun h => bad (by have := of_decide_eq_true h; omega)) (fun h1 => ?_)
  refine ldW_blk hb (by rfl) ?_
  refine splitW_i (fun h => bad (by have := of_decide_eq_true h; omega)) (fun h2 => ?_)
  refine ldW_blk hb (by rfl) ?_
  refine splitW_i (fun h => bad (by rw [bne_iff_ne] at h; exact fun hh => h hh.2.2.1)) (fun h3 => ?_)
  refine ld_blk (o := 1) hb (by rfl) ?_
  refine splitW_i (fun h => bad (by have := of_decide_eq_true h; omega)) (fun h4 => ?_)
  refine ld_blk (o := 1) hb (by rfl) ?_
  refine splitW_i (fun h => bad (by have := of_decide_eq_true h; omega)) (fun h5 => ?_)
  have h1 := of_decide_eq_false h1
  have h2 := of_decide_eq_false h2
  have h3 : Int.tmod size 64 = 0 := by simpa using h3
  have h4 := of_decide_eq_false h4
  have h5 := of_decide_eq_false h5
  unfold geoOK
  rw [decide_eq_true ⟨by omega, by omega, h3, by omega, by omega⟩]
  exact ⟨rfl, he⟩
/-- Room of a frame in a block of this size. -/
def roomOf (size : Int) : Int := if geoOK size 8 then size - 16 else 0
theorem room_calls (w : World) (size : Int) : Calls Tryz.prog 45 #[.int .i64 size] w (Ret fun v w' => v = .int .i64 (roomOf size) ∧ Ext w w') := by
  apply calls45
  unfold S45 roomOf
  refine callW_of (devcheck_calls w size 8) ?_
  rintro _ w1 ⟨rfl, he⟩
  refine ⟨_, rfl, ?_⟩
  cases hok : geoOK size 8 with
  | false => exact splitW_t (by rfl) ⟨rfl, he⟩
  | true =>
    refine splitW_f (by rfl) ⟨?_, he⟩
    unfold geoOK at hok
    have hok := of_decide_eq_true hok
    rw [wrap_i64 (x := size - 12) (by omega) (by omega), wrap_i64 (by omega) (by omega), if_pos rfl]
    congr 1
    omega
def lightGeo (size blocks : Int) : Bool := if size < 128 ∨ size > 4096 ∨ blocks < 8 ∨ blocks > 4096 then true else decide (size ≤ 512 ∧ blocks ≤ 40)
theorem lightgeo_calls (w : World) (size blocks : Int) : Calls Tryz.prog 24 #[.agg #[.int .i64 size, .int .i64 blocks]] w (Ret fun v w' => v = .bool (lightGeo size blocks) ∧ Ext w w') := by
  apply calls24
  unfold S24 lightGeo
  apply newW_i
  have hb : Blk (w.alloc (.cells #[(.int .i64 size), (.int .i64 blocks)] 28)) w.heap.size [(.int .i64 size), (.int .i64 blocks)] 28 := Blk.new w _ _
  have he : Ext w (w.alloc (.cells #[(.int .i64 size), (.int .i64 blocks)] 28)) := (Ext.refl w).alloc _
  generalize w.alloc (.cells #[(.int .i64 size), (.int .i64 blocks)] 28) = w1 at hb he ⊢
  refine ldW_blk hb (by rfl) ?_
  refine splitW_i (fun h => ?_) (fun h1 => ?_)
  · rw [if_pos (.inl (of_decide_eq_true h))]; exact ⟨rfl, he⟩
  refine ldW_blk hb (by rfl) ?_
  refine splitW_i (fun h => ?_) (fun h2 => ?_)
  · rw [if_pos (.inr (.inl (of_decide_eq_true h)))]; exact ⟨rfl, he⟩
  refine ld_blk (o := 1) hb (by rfl) ?_
  refine splitW_i (fun h => ?_) (fun h3 => ?_)
  · rw [if_pos (.inr (.inr (.inl (of_decide_eq_true h))))]; exact ⟨rfl, he⟩
  refine ld_blk (o := 1) hb (by rfl) ?_
  refine splitW_i (fun h => ?_) (fun h4 => ?_)
  · rw [if_pos (.inr (.inr (.inr (of_decide_eq_true h))))]; exact ⟨rfl, he⟩
  have h1 := of_decide_eq_false h1
  have h2 := of_decide_eq_false h2
  have h3 := of_decide_eq_false h3
  have h4 := of_decide_eq_false h4
  rw [if_neg (by omega)]
  refine ldW_blk hb (by rfl) ?_
  refine splitW_i (fun h => ?_) (fun h5 => ?_)
  · have h := of_decide_eq_true h
    refine ld_blk (o := 1) hb (by rfl) ?_
    refine ⟨?_, he⟩
    congr 1
    exact decide_eq_decide.2 (by omega)
  · have h5 := of_decide_eq_false h5
    refine ⟨?_, he⟩
    congr 1
    symm
    rw [decide_eq_false_iff_not]
    omega
end Go.Proofs.YtcjobbcijbkjkaaGreat.V

/- Iterators: slices.Chunk's and slices.Backward's inner functions, told of any program. -/
set_option linter.unusedVariables false
set_option linter.unusedSimpArgs false
namespace Go.Proofs.YtcjobbcijbkjkaaGreat.V
open Go

/-- What slices.Chunk$1 does. -/
def ChunkW (P : Program) (z : Nat) (x0 : Value) (a1 : Addr) (a2 : Addr) (K : Value → WP) : WP :=
  loopW (Int × Unit) ((0 : Int), ()) fun (y2 : Int × Unit) (I1 : (Int × Unit) → WP) =>
  ldW .slc a1 fun (u3 : (Option Addr × Nat × Nat)) =>
  splitW (decide (y2.1 < ((u3.2.1 : Nat) : Int))) (drewW <|
  ldW (.int .i64) a2 fun (u4 : Int) =>
  ldW .slc a1 fun (u5 : (Option Addr × Nat × Nat)) =>
  guardW (0 ≤ y2.1 ∧ y2.1 ≤ ((u5.2.1 : Nat) : Int)) <|
  ldW .slc a1 fun (u6 : (Option Addr × Nat × Nat)) =>
  guardW (0 ≤ y2.1 ∧ y2.1 ≤ (IntKind.wrap .i64 (y2.1 + (if (((u5.2.1 - (Int.toNat y2.1)) : Nat) : Int) < u4 then (((u5.2.1 - (Int.toNat y2.1)) : Nat) : Int) else u4))) ∧ (IntKind.wrap .i64 (y2.1 + (if (((u5.2.1 - (Int.toNat y2.1)) : Nat) : Int) < u4 then (((u5.2.1 - (Int.toNat y2.1)) : Nat) : Int) else u4))) ≤ (IntKind.wrap .i64 (y2.1 + (if (((u5.2.1 - (Int.toNat y2.1)) : Nat) : Int) < u4 then (((u5.2.1 - (Int.toNat y2.1)) : Nat) : Int) else u4))) ∧ (IntKind.wrap .i64 (y2.1 + (if (((u5.2.1 - (Int.toNat y2.1)) : Nat) : Int) < u4 then (((u5.2.1 - (Int.toNat y2.1)) : Nat) : Int) else u4))) ≤ ((u6.2.2 : Nat) : Int)) <|
  callVW P x0 [(.slice (cutAddr u6.1 (Int.toNat y2.1) (Int.toNat (IntKind.wrap .i64 (y2.1 + (if (((u5.2.1 - (Int.toNat y2.1)) : Nat) : Int) < u4 then (((u5.2.1 - (Int.toNat y2.1)) : Nat) : Int) else u4)))) z) ((Int.toNat (IntKind.wrap .i64 (y2.1 + (if (((u5.2.1 - (Int.toNat y2.1)) : Nat) : Int) < u4 then (((u5.2.1 - (Int.toNat y2.1)) : Nat) : Int) else u4)))) - (Int.toNat y2.1)) ((Int.toNat (IntKind.wrap .i64 (y2.1 + (if (((u5.2.1 - (Int.toNat y2.1)) : Nat) : Int) < u4 then (((u5.2.1 - (Int.toNat y2.1)) : Nat) : Int) else u4)))) - (Int.toNat y2.1)))] (.one (.one .bool)) fun (u7 : Bool) =>
  splitW (!u7) (K (.tuple #[])) <|
  ldW (.int .i64) a2 fun (u8 : Int) => I1 ((IntKind.wrap .i64 (y2.1 + u8)), ())) <| K (.tuple #[])
def cutsN (n k : Nat) : Nat := (n + k - 1) / k
theorem cutsN_lt {n k i : Nat} (hk : 1 ≤ k) : i < cutsN n k ↔ i * k < n := by
  unfold cutsN
  rw [Nat.lt_iff_add_one_le, Nat.le_div_iff_mul_le (by omega), Nat.succ_mul]
  omega
/-- The cuts of a slice, of k each. -/
def cutsV (z : Nat) (A : Option Addr) (n k : Nat) : List (List Value) := (List.range (cutsN n k)).map fun i => [.slice (cutAddr A (i * k) (i * k + min k (n - i * k)) z) (min k (n - i * k)) (min k (n - i * k))]
theorem cutsV_length (z : Nat) (A : Option Addr) (n k : Nat) : (cutsV z A n k).length = cutsN n k := by simp [cutsV]
theorem chunk_walk {P : Program} {z r1 r2 l n c k : Nat} {A : Option Addr} {t1 t2 : TypeId} {J : Nat → WP} {w : World} (hk : 1 ≤ k) (hnc : n ≤ c) (hnk : n + k ≤ 9223372036854775807) (h0 : J 0 w)
    (hR : ∀ i w', J i w' → Blk w' r1 [.slice A n c] t1 ∧ Blk w' r2 [.int .i64 (k : Int)] t2) (hd : ∀ i w', J i w' → J i w'.drew)
    (hY : ∀ i w' (h : i < (cutsV z A n k).length), J i w' → YieldAt P l (cutsV z A n k)[i] w' fun v w'' => v = .bool true ∧ J (i + 1) w'') :
    ChunkW P z (.func (.yield l) #[] #[]) ⟨r1, 0, none⟩ ⟨r2, 0, none⟩ (fun _ w' => J (cutsV z A n k).length w') w := by
  unfold ChunkW
  rw [cutsV_length]
  refine loopW_i (fun y w' => ∃ i : Nat, i ≤ cutsN n k ∧ y = (((i * k : Nat) : Int), ()) ∧ J i w') (fun y => ((n : Int) + k - y.1).toNat) ⟨0, by omega, by simp, h0⟩ ?_
  rintro _ w' ⟨i, hi, rfl, hJ⟩
  dsimp only
  obtain ⟨h1, h2⟩ := hR i w' hJ
  refine ldW_blk (x := (A, n, c)) h1 (by rfl) ?_
  dsimp only
  by_cases hlt : i * k < n
  · refine splitW_t (decide_eq_true (by omega)) ?_
    have hJ' := hd i w' hJ
    obtain ⟨h1, h2⟩ := hR i _ hJ'
    show (ldW _ _ _) w'.drew
    generalize w'.drew = w1 at hJ' h1 h2 ⊢
    refine ldW_blk (x := (k : Int)) h2 (by rfl) ?_
    refine ldW_blk (x := (A, n, c)) h1 (by rfl) ?_
    dsimp only
    refine ⟨⟨by omega, by omega⟩, ?_⟩
    refine ldW_blk (x := (A, n, c)) h1 (by rfl) ?_
    dsimp only
    have e : IntKind.wrap .i64 (((i * k : Nat) : Int) + (if (((n - Int.toNat ((i * k : Nat) : Int)) : Nat) : Int) < (k : Int) then (((n - Int.toNat ((i * k : Nat) : Int)) : Nat) : Int) else (k : Int))) = ((i * k + min k (n - i * k) : Nat) : Int) := by
      rw [Int.toNat_natCast]
      generalize i * k = m at hlt ⊢
      split <;> rw [wrap_i64 (by omega) (by omega)] <;> omega
    rw [e]
    refine ⟨⟨by omega, by omega, by omega, by omega⟩, ?_⟩
    rw [Int.toNat_natCast, Int.toNat_natCast, Nat.add_sub_cancel_left]
    have hlt' : i < (cutsV z A n k).length := by rw [cutsV_length]; exact (cutsN_lt hk).2 hlt
    refine .inr ⟨l, rfl, ?_⟩
    have hy := hY i w1 hlt' hJ'
    have el : (cutsV z A n k)[i] = [.slice (cutAddr A (i * k) (i * k + min k (n - i * k)) z) (min k (n - i * k)) (min k (n - i * k))] := by simp [cutsV]
    rw [el] at hy
    obtain ⟨fn, tmps, asg, bd, hy1, hy2⟩ := hy
    refine ⟨fn, tmps, asg, bd, hy1, RoundIn.mono hy2 ?_⟩
    rintro (v | x | _) w2 hv
    · obtain ⟨rfl, hJ2⟩ := hv
      refine ⟨true, rfl, ?_⟩
      refine splitW_f (by rfl) ?_
      obtain ⟨h1, h2⟩ := hR _ _ hJ2
      refine ldW_blk (x := (k : Int)) h2 (by rfl) ?_
      rw [wrap_i64 (by omega) (by omega)]
      refine ⟨⟨i + 1, by rw [cutsV_length] at hlt'; omega, by rw [Nat.succ_mul]; rfl, hJ2⟩, ?_⟩
      generalize i * k = m at hlt ⊢
      omega
    · exact hv
    · exact hv
  · refine splitW_f (decide_eq_false (by omega)) ?_
    have : i = cutsN n k := by
      rcases Nat.lt_or_ge i (cutsN n k) with h | h
      · exact absurd ((cutsN_lt hk).1 h) hlt
      · omega
    subst this
    exact hJ
/-- What slices.Backward$1 does, of bytes. -/
def BackW (P : Program) (x0 : Value) (a1 : Addr) (K : Value → WP) : WP :=
  ldW .slc a1 fun (u1 : (Option Addr × Nat × Nat)) =>
  loopW (Int × Unit) ((IntKind.wrap .i64 (((u1.2.1 : Nat) : Int) - (1 : Int))), ()) fun (y3 : Int × Unit) (I2 : (Int × Unit) → WP) =>
  splitW (decide (y3.1 ≥ (0 : Int))) (ldW .slc a1 fun (u4 : (Option Addr × Nat × Nat)) =>
  guardW (0 ≤ y3.1 ∧ y3.1 < ((u4.2.1 : Nat) : Int)) <|
  ptrW u4.1 fun (p5 : Addr) =>
  ldW (.int .u8) (p5.add (Int.toNat y3.1 * 1)) fun (u6 : Int) =>
  callVW P x0 [(.int .i64 y3.1), (.int .u8 u6)] (.one (.one .bool)) fun (u7 : Bool) =>
  splitW (!u7) (K (.tuple #[])) <| I2 ((IntKind.wrap .i64 (y3.1 - (1 : Int))), ())) <| K (.tuple #[])
def backV (bs : List UInt8) : List (List Value) := (List.range bs.length).map fun i => [.int .i64 ((bs.length - 1 - i : Nat) : Int), .int .u8 ((bs.getD (bs.length - 1 - i) 0).toNat : Int)]
theorem backV_length (bs : List UInt8) : (backV bs).length = bs.length := by simp [backV]
theorem back_walk {P : Program} {r1 l n c : Nat} {A : Option Addr} {bs : List UInt8} {t1 : TypeId} {J : Nat → WP} {w : World} (h0 : J 0 w)
    (hR : ∀ i w', J i w' → Blk w' r1 [.slice A n c] t1 ∧ Sl w' A n (bV bs))
    (hY : ∀ i w' (h : i < (backV bs).length), J i w' → YieldAt P l (backV bs)[i] w' fun v w'' => v = .bool true ∧ J (i + 1) w'') :
    BackW P (.func (.yield l) #[] #[]) ⟨r1, 0, none⟩ (fun _ w' => J (backV bs).length w') w := by
  unfold BackW
  rw [backV_length]
  obtain ⟨h1, h2⟩ := hR 0 w h0
  have hl := h2.blen
  have hle := h2.le
  refine ldW_blk (x := (A, n, c)) h1 (by rfl) ?_
  dsimp only
  rw [wrap_i64 (by omega) (by omega)]
  refine loopW_i (fun y w' => ∃ i : Nat, i ≤ n ∧ y = ((n : Int) - 1 - i, ()) ∧ J i w') (fun y => (y.1 + 1).toNat) ⟨0, by omega, by simp, h0⟩ ?_
  rintro _ w' ⟨i, hi, rfl, hJ⟩
  dsimp only
  by_cases hlt : i < n
  · refine splitW_t (decide_eq_true (by omega)) ?_
    obtain ⟨h1, h2⟩ := hR i w' hJ
    refine ldW_blk (x := (A, n, c)) h1 (by rfl) ?_
    dsimp only
    refine idx_byte h2 (by omega) (by omega) ?_
    have hlt' : i < (backV bs).length := by rw [backV_length]; omega
    refine .inr ⟨l, rfl, ?_⟩
    have hy := hY i w' hlt' hJ
    have el : (backV bs)[i] = [.int .i64 ((n : Int) - 1 - i), .int .u8 ((bs.getD (Int.toNat ((n : Int) - 1 - i)) 0).toNat : Int)] := by
      have e1 : ((bs.length - 1 - i : Nat) : Int) = (n : Int) - 1 - i := by omega
      have e2 : Int.toNat ((n : Int) - 1 - i) = bs.length - 1 - i := by omega
      rw [e2, ← e1]
      simp [backV]
    rw [el] at hy
    obtain ⟨fn, tmps, asg, bd, hy1, hy2⟩ := hy
    refine ⟨fn, tmps, asg, bd, hy1, RoundIn.mono hy2 ?_⟩
    rintro (v | x | _) w2 hv
    · obtain ⟨rfl, hJ2⟩ := hv
      refine ⟨true, rfl, ?_⟩
      refine splitW_f (by rfl) ?_
      rw [wrap_i64 (by omega) (by omega)]
      exact ⟨⟨i + 1, by omega, by congr 1; omega, hJ2⟩, by omega⟩
    · exact hv
    · exact hv
  · refine splitW_f (decide_eq_false (by omega)) ?_
    obtain rfl : i = bs.length := by omega
    exact hJ
end Go.Proofs.YtcjobbcijbkjkaaGreat.V

/- Contracts of the statements' own helpers, and of slices.Clone. -/
set_option linter.unusedVariables false
set_option linter.unusedSimpArgs false
namespace Go.Proofs.YtcjobbcijbkjkaaGreat.V
open Go Go.Proofs

theorem elem_u8 : Elem Tryz.prog 58 5 (.int .u8 0) 1 := by
  refine ⟨by kernel_rfl, by kernel_rfl, rfl⟩
/-- A slice of bytes of one's own comes back. -/
def Bytes (w : World) (bs : List UInt8) (v : Value) (w' : World) : Prop := ∃ x : Option Addr × Nat × Nat, v = .slice x.1 x.2.1 x.2.2 ∧ Own 5 w' w.heap.size x.1 x.2.1 x.2.2 (bV bs) ∧ Ext w w'
theorem bytes_ret {w w' : World} {bs : List UInt8} {A : Option Addr} {n c : Nat} (h : Own 5 w' w.heap.size A n c (bV bs)) (he : Ext w w') : Bytes w bs (.slice A n c) w' := ⟨(A, n, c), rfl, h, he⟩
/-- A slice's bytes, behind an empty row. -/
theorem own_of {w : World} {A : Option Addr} {n c : Nat} {bs : List UInt8} {K : Option Addr × Nat × Nat → WP} (h : Sl w A n (bV bs)) (hn : n ≤ 140737488355328)
    (hK : ∀ A' c' w', Own 5 w' w.heap.size A' n c' (bV bs) → Ext w w' → K (A', n, c') w') :
    (newW (.cells #[] 5) fun r => runW Tryz.prog (Builtin.append_ #[58, 58] 58 #[.slice (some (⟨r, 0, none⟩ : Addr)) 0 0, .slice A n c]) .slc K) w := by
  apply newW_i
  have ho : Own 5 (w.alloc (.cells #[] 5)) w.heap.size (some ⟨w.heap.size, 0, none⟩) 0 0 [] := Own.lit (cs := #[]) (Nat.le_refl _) (by simp)
  have he : Ext w (w.alloc (.cells #[] 5)) := (Ext.refl w).alloc _
  refine append_sl (c := 0) (n := 0) (m := n) elem_u8 ho he.size (h.ext he) (bV_one bs) (by omega) (by omega) ?_
  intro A' c' w' ho' hg _
  rw [List.nil_append, Nat.zero_add] at ho'
  rw [Nat.zero_add]
  exact hK A' c' w' ho' (he.grown hg.grown (ho.row'))

/-- A number brought below another one. -/
def pick (n m : Int) : Int := if m < 1 then 0 else n % m
theorem pick_calls (w : World) {n m : Int} (hn0 : -9223372036854775808 ≤ n) (hn1 : n < 9223372036854775808) (hm1 : m < 9223372036854775808) : Calls Tryz.prog 19 #[.int .i64 n, .int .i64 m] w (Ret fun v w' => v = .int .i64 (pick n m) ∧ w' = w) := by
  apply calls19
  unfold S19 pick
  refine splitW_i (fun h => ?_) (fun h => ?_)
  · rw [if_pos (of_decide_eq_true h)]
    exact ⟨rfl, rfl⟩
  · have hm : ¬ m < 1 := of_decide_eq_false h
    rw [if_neg hm]
    refine ⟨by omega, ?_⟩
    have e := @Int.tmod_eq_emod n m
    have h1 := Int.emod_nonneg n (show m ≠ 0 by omega)
    have h2 := Int.emod_lt_of_pos n (show 0 < m by omega)
    by_cases hneg : n.tmod m < 0
    · refine splitW_t (decide_eq_true hneg) ?_
      refine ⟨?_, rfl⟩
      have h3 : n.tmod m = n % m - m := by
        rw [e]
        split
        · rename_i h4
          have : n.tmod m = n % m := by rw [e, if_pos h4]; omega
          omega
        · omega
      rw [h3, wrap_i64 (by omega) (by omega)]
      congr 1
      omega
    · refine splitW_f (decide_eq_false hneg) ?_
      refine ⟨?_, rfl⟩
      congr 1
      rw [e]
      split
      · omega
      · rename_i h4
        have : n.tmod m = n % m - m := by rw [e, if_neg h4]; omega
        omega

theorem clone_calls {w : World} {A : Option Addr} {n c : Nat} {bs : List UInt8} (h : Sl w A n (bV bs)) (hn : n ≤ 140737488355328) : Calls Tryz.prog 118 #[.slice A n c] w (Ret (Bytes w bs)) := by
  apply calls118
  unfold S118
  refine splitW_i (fun hA => ?_) (fun hA => ?_)
  · have hA : A = none := by simpa using hA
    subst hA
    have hn0 : n = 0 := by
      rcases Nat.eq_zero_or_pos n with h0 | h0
      · exact h0
      · obtain ⟨a, h1, _⟩ := h.2.2 h0; cases h1
    have hb := h.blen
    obtain rfl : bs = [] := List.eq_nil_of_length_eq_zero (by omega)
    exact bytes_ret (Own.nil _ _ _) (Ext.refl w)
  · exact own_of h hn fun A' c' w' ho he => bytes_ret ho he
end Go.Proofs.YtcjobbcijbkjkaaGreat.V

/- Contracts of slices.Chunk, slices.Backward, octet.Of, octet.Put. -/
set_option linter.unusedVariables false
set_option linter.unusedSimpArgs false
namespace Go.Proofs.YtcjobbcijbkjkaaGreat.V
open Go Go.Proofs Go.RowKit

def RChunk8 (r1 r2 : Nat) (A : Option Addr) (n c k : Nat) : WP := fun w => Blk w r1 [.slice A n c] 58 ∧ Blk w r2 [.int .i64 (k : Int)] 3
theorem chunk8_calls {w : World} {A : Option Addr} {n c k : Nat} (hk : 1 ≤ k) (hnc : n ≤ c) (hnk : n + k ≤ 9223372036854775807) : Calls Tryz.prog 91 #[.slice A n c, .int .i64 (k : Int)] w (Ret fun v w' => Iter Tryz.prog v (cutsV 1 A n k) (RChunk8 w.heap.size (w.heap.size + 1) A n c k) ∧ RChunk8 w.heap.size (w.heap.size + 1) A n c k w' ∧ w'.heap.size = w.heap.size + 2 ∧ Ext w w') := by
  apply calls91
  unfold S91
  apply newW_i
  have h1 := Blk.new w #[.slice A n c] 58
  have he := (Ext.refl w).alloc (.cells #[.slice A n c] 58)
  have hs : (w.alloc (.cells #[.slice A n c] 58)).heap.size = w.heap.size + 1 := by simp
  generalize w.alloc (.cells #[.slice A n c] 58) = w1 at h1 he hs ⊢
  apply newW_i
  have h2 := Blk.new w1 #[.int .i64 (k : Int)] 3
  have h1 := h1.alloc (.cells #[.int .i64 (k : Int)] 3)
  have he := he.alloc (.cells #[.int .i64 (k : Int)] 3)
  have hs2 : (w1.alloc (.cells #[.int .i64 (k : Int)] 3)).heap.size = w.heap.size + 2 := by simp [hs]
  generalize w1.alloc (.cells #[.int .i64 (k : Int)] 3) = w2 at h1 h2 he hs2 ⊢
  rw [hs] at h2 ⊢
  refine ldW_blk (x := (k : Int)) h2 (by rfl) ?_
  refine splitW_f (decide_eq_false (by omega)) ?_
  refine ⟨⟨_, _, rfl, by kernel_rfl, fun l J w' hJ hR hd hY => ?_⟩, ⟨h1, h2⟩, hs2, he⟩
  apply calls110
  exact chunk_walk (P := Tryz.prog) hk hnc hnk hJ hR hd hY
def RChunk16 (r1 r2 : Nat) (A : Option Addr) (n c k : Nat) : WP := fun w => Blk w r1 [.slice A n c] 129 ∧ Blk w r2 [.int .i64 (k : Int)] 3
theorem chunk16_calls {w : World} {A : Option Addr} {n c k : Nat} (hk : 1 ≤ k) (hnc : n ≤ c) (hnk : n + k ≤ 9223372036854775807) : Calls Tryz.prog 108 #[.slice A n c, .int .i64 (k : Int)] w (Ret fun v w' => Iter Tryz.prog v (cutsV 1 A n k) (RChunk16 w.heap.size (w.heap.size + 1) A n c k) ∧ RChunk16 w.heap.size (w.heap.size + 1) A n c k w' ∧ w'.heap.size = w.heap.size + 2 ∧ Ext w w') := by
  apply calls108
  unfold S108
  apply newW_i
  have h1 := Blk.new w #[.slice A n c] 129
  have he := (Ext.refl w).alloc (.cells #[.slice A n c] 129)
  have hs : (w.alloc (.cells #[.slice A n c] 129)).heap.size = w.heap.size + 1 := by simp
  generalize w.alloc (.cells #[.slice A n c] 129) = w1 at h1 he hs ⊢
  apply newW_i
  have h2 := Blk.new w1 #[.int .i64 (k : Int)] 3
  have h1 := h1.alloc (.cells #[.int .i64 (k : Int)] 3)
  have he := he.alloc (.cells #[.int .i64 (k : Int)] 3)
  have hs2 : (w1.alloc (.cells #[.int .i64 (k : Int)] 3)).heap.size = w.heap.size + 2 := by simp [hs]
  generalize w1.alloc (.cells #[.int .i64 (k : Int)] 3) = w2 at h1 h2 he hs2 ⊢
  rw [hs] at h2 ⊢
  refine ldW_blk (x := (k : Int)) h2 (by rfl) ?_
  refine splitW_f (decide_eq_false (by omega)) ?_
  refine ⟨⟨_, _, rfl, by kernel_rfl, fun l J w' hJ hR hd hY => ?_⟩, ⟨h1, h2⟩, hs2, he⟩
  apply calls120
  exact chunk_walk (P := Tryz.prog) hk hnc hnk hJ hR hd hY
def RBack (r1 : Nat) (A : Option Addr) (n c : Nat) (bs : List UInt8) : WP := fun w => Blk w r1 [.slice A n c] 58 ∧ Sl w A n (bV bs)
theorem back_calls {w : World} {A : Option Addr} {n c : Nat} {bs : List UInt8} (h : Sl w A n (bV bs)) : Calls Tryz.prog 99 #[.slice A n c] w (Ret fun v w' => Iter Tryz.prog v (backV bs) (RBack w.heap.size A n c bs) ∧ RBack w.heap.size A n c bs w' ∧ w'.heap.size = w.heap.size + 1 ∧ Ext w w') := by
  apply calls99
  unfold S99
  apply newW_i
  have he := (Ext.refl w).alloc (.cells #[.slice A n c] 58)
  refine ⟨⟨_, _, rfl, by kernel_rfl, fun l J w' hJ hR hd hY => ?_⟩, ⟨Blk.new w #[.slice A n c] 58, h.ext he⟩, by simp, he⟩
  apply calls115
  exact back_walk (P := Tryz.prog) hJ hR hY
theorem octput_calls {w : World} {B : Nat} {A : Option Addr} {n c : Nat} {bs : List UInt8} {v k : Nat} (h : Own 5 w B A n c (bV bs)) (hB : B ≤ w.heap.size) (hn : n ≤ 140737488355000) (hv : v < 18446744073709551616) (hk1 : 1 ≤ k) (hk : k ≤ 8) :
    Calls Tryz.prog 32 #[.slice A n c, .int .u64 (v : Int), .int .i64 (k : Int)] w (Ret fun r w' => ∃ x : Option Addr × Nat × Nat, r = .slice x.1 x.2.1 x.2.2 ∧ Own 5 w' B x.1 x.2.1 x.2.2 (bV (bs ++ le k v)) ∧ Grew w w' (orow A) (orow x.1)) := by
  apply calls32
  unfold S32
  refine splitW_f (decide_eq_false (by omega)) ?_
  refine splitW_f (decide_eq_false (by omega)) ?_
  refine loopW_i (fun x w' => ∃ (A' : Option Addr) (c' i : Nat), i ≤ k ∧ x = ((A', n + i, c'), (i : Int), ()) ∧ Own 5 w' B A' (n + i) c' (bV (bs ++ le i v)) ∧ Grew w w' (orow A) (orow A')) (fun x => (k - x.2.1).toNat)
    ⟨A, c, 0, by omega, rfl, by simpa [le] using h, Grew.refl _ _⟩ ?_
  rintro _ w' ⟨A', c', i, hi, rfl, ho, hg⟩
  dsimp only
  have hB' : B ≤ w'.heap.size := Nat.le_trans hB hg.grown.size
  by_cases hlt : i < k
  · refine splitW_t (decide_eq_true (by omega)) ?_
    have e1 : IntKind.wrap .i64 ((8 : Int) * (i : Int)) = ((8 * i : Nat) : Int) := by
      rw [wrap_i64 (by omega) (by omega)]
      omega
    rw [e1]
    refine ⟨by omega, ?_⟩
    rw [ishr_nat .u64 v (8 * i) (by simp [IntKind.bits]; omega), wrap_u8_nat, Nat.pow_mul, show (2 : Nat) ^ 8 = 256 from rfl]
    have hone : ∀ y ∈ [Value.int .u8 ((UInt8.ofNat (v / 256 ^ i)).toNat : Int)], y.oneCell' = true := by
      intro y hy
      simp only [List.mem_singleton] at hy
      subst hy
      rfl
    refine append_new (ys := [Value.int .u8 ((UInt8.ofNat (v / 256 ^ i)).toNat : Int)]) elem_u8 ho hB' hone (by simp; omega) (by omega) ?_
    intro A2 c2 w2 ho2 hg2
    refine ⟨⟨A2, c2, i + 1, by omega, ?_, ?_, ?_⟩, ?_⟩
    · rw [wrap_i64 (by omega) (by omega)]; rfl
    · have e2 : bV (bs ++ le (i + 1) v) = bV (bs ++ le i v) ++ [Value.int .u8 ((UInt8.ofNat (v / 256 ^ i)).toNat : Int)] := by
        rw [le_succ, ← List.append_assoc, bV_append (bs ++ le i v)]
        rfl
      rw [e2]
      exact ho2
    · exact hg.step hg2
    · rw [wrap_i64 (by omega) (by omega)]; omega
  · obtain rfl : i = k := by omega
    refine splitW_f (decide_eq_false (by omega)) ?_
    exact ⟨(A', n + i, c'), rfl, ho, hg⟩
theorem lev_drop {bs : List UInt8} {j : Nat} (h : j < bs.length) : lev (bs.drop j) = (bs.getD j 0).toNat + 256 * lev (bs.drop (j + 1)) := by
  rw [List.drop_eq_getElem_cons h]
  simp [lev, h]
theorem octof_calls {w : World} {A : Option Addr} {n c : Nat} {bs : List UInt8} (h : Sl w A n (bV bs)) (hn : n ≤ 8) : Calls Tryz.prog 72 #[.slice A n c] w (Ret fun v w' => v = .int .u64 (lev bs : Int) ∧ Ext w w') := by
  apply calls72
  unfold S72
  have hl := h.blen
  apply newW_i
  have hr := Blk.new w #[.int .u64 (0 : Int)] 67
  have he := (Ext.refl w).alloc (.cells #[.int .u64 (0 : Int)] 67)
  generalize w.alloc (.cells #[.int .u64 (0 : Int)] 67) = w1 at hr he ⊢
  generalize hrr : w.heap.size = r at hr ⊢
  refine splitW_f (decide_eq_false (by omega)) ?_
  refine callW_of (back_calls (c := c) (h.ext he)) ?_
  rintro v w2 ⟨hit, hRb, hs2, he2⟩
  refine ⟨v, rfl, ?_⟩
  have hr2 := hr.ext he2
  have hrlt := hr.lt
  have he02 := he.trans he2
  have hsl : ∀ w', Ext w w' → Sl w' A n (bV bs) := fun w' e => h.ext e
  refine range_i (R := RBack w1.heap.size A n c bs) (fun i w' => Ext w w' ∧ Blk w' w1.heap.size [.slice A n c] 58 ∧ Blk w' r [.int .u64 (lev (bs.drop (n - i)) : Int)] 67) hit (fun i w' hI => ⟨hI.2.1, hsl _ hI.1⟩) (fun i w' hI => ⟨hI.1.drew, hI.2.1, hI.2.2⟩) ?_ ?_ ?_ ?_
  · rintro i w' w'' hsb ⟨h1, h2, h3⟩
    have hge : w.heap.size ≤ w2.heap.size := he02.size
    refine ⟨?_, ?_, ?_⟩
    · exact ⟨hsb.1.trans h1.os, hsb.2.1.trans h1.tape, hsb.2.2.1.trans h1.output, by have := h1.size; have := hsb.2.2.2.1; omega, fun k hk => (hsb.2.2.2.2 k (by omega) (by omega)).trans (h1.block k hk)⟩
    · exact (hsb.2.2.2.2 _ (by omega) (by omega)).trans h2
    · exact (hsb.2.2.2.2 _ (by omega) (by omega)).trans h3
  · intro o
    refine ⟨(he02.alloc _).alloc _, (hRb.1.alloc _).alloc _, ?_⟩
    have e : bs.drop (n - 0) = [] := List.drop_of_length_le (by omega)
    rw [e]
    exact (hr2.alloc _).alloc _
  · intro i hi w' N jump hI hsz hN
    rw [backV_length] at hi
    refine ⟨((bs.length - 1 - i : Nat), ((bs.getD (bs.length - 1 - i) 0).toNat : Int), ()), by simp [backV], ?_⟩
    obtain ⟨h1, h2, h3⟩ := hI
    dsimp only
    refine ldW_blk (x := (lev (bs.drop (n - i)) : Int)) h3 (by rfl) ?_
    refine stW_blk h3 (by simp) ?_
    have hb := (bs.getD (bs.length - 1 - i) 0).toNat_lt
    have hlv := lev_lt (bs.drop (n - i))
    have hlen : (bs.drop (n - i)).length = i := by rw [List.length_drop]; omega
    rw [hlen] at hlv
    have hpow : 256 ^ i * 256 ≤ 18446744073709551616 := by
      rw [show 256 ^ i * 256 = 256 ^ (i + 1) from rfl, show 18446744073709551616 = 256 ^ 8 from rfl]
      exact Nat.pow_le_pow_right (by omega) (by omega)
    have e1 : ior .u64 (ishl .u64 (lev (bs.drop (n - i)) : Int) (8 : Int)) (IntKind.wrap .u64 ((bs.getD (bs.length - 1 - i) 0).toNat : Int)) = (lev (bs.drop (n - (i + 1))) : Int) := by
      rw [show (8 : Int) = ((8 : Nat) : Int) from rfl, wrap_u64_nat (by omega), ishl_nat (k := .u64) rfl _ 8 (by simp [IntKind.bits])]
      rw [Nat.mod_eq_of_lt (show lev (bs.drop (n - i)) * 2 ^ 8 < 2 ^ IntKind.bits .u64 by show _ < 18446744073709551616; omega)]
      rw [ior_nat (k := .u64) rfl (show lev (bs.drop (n - i)) * 2 ^ 8 < 2 ^ IntKind.bits .u64 by show _ < 18446744073709551616; omega) (show _ < 18446744073709551616 by omega)]
      rw [Nat.mul_comm, ← Nat.two_pow_add_eq_or_of_lt (by omega)]
      have e2 : n - (i + 1) = bs.length - 1 - i := by omega
      rw [e2, lev_drop (j := bs.length - 1 - i) (by omega), show bs.length - 1 - i + 1 = n - i by omega]
      congr 1
      omega
    rw [e1]
    have hset := h3.set 0 (.int .u64 (lev (bs.drop (n - (i + 1))) : Int))
    refine hN _ ⟨h1.set (by simp only; omega) _, h2.other (by simp only; omega) _, hset⟩ (by simp) (fun k hk => ?_)
    exact Below.heap_setCell _ _ _ _ (by simp only; omega)
  · intro w' hI hsz hd
    obtain ⟨h1, h2, h3⟩ := hI
    rw [backV_length] at h3
    have e : bs.drop (n - bs.length) = bs := by rw [show n - bs.length = 0 by omega]; rfl
    rw [e] at h3
    show (ldW _ _ _) w'
    refine ldW_blk (x := (lev bs : Int)) h3 (by rfl) ?_
    refine stW_blk h3 (by simp) ?_
    have hset := h3.set 0 (.int .u64 (lev bs : Int))
    refine leave_i (by rw [Below.heap_setCell _ _ _ _ (by simp only; omega)]; exact hd) ?_
    show (ldW _ _ _) _
    refine ldW_blk (x := (lev bs : Int)) (show Blk _ r [.int .u64 (lev bs : Int)] 67 from ?_) (by rfl) ?_
    · exact (setO_other (by omega)).trans hset
    · exact ⟨rfl, (h1.set (by simp only; omega) _).setO (by have := he02.size; omega) _⟩
end Go.Proofs.YtcjobbcijbkjkaaGreat.V

/- Plain mathematics of checks (chapter 2): no program in sight. -/
set_option linter.unusedVariables false
set_option linter.unusedSimpArgs false
namespace Go.Proofs.YtcjobbcijbkjkaaGreat.Crc

abbrev W32 := BitVec 32
def poly : W32 := 0x82f63b78#32
/-- A bit's step. -/
def bstep (v : W32) : W32 := (v >>> 1) ^^^ (if v.getLsbD 0 then poly else 0#32)
def bsteps : Nat → W32 → W32
  | 0, v => v
  | n + 1, v => bsteps n (bstep v)
def entry (i : Nat) : W32 := bsteps 8 (BitVec.ofNat 32 i)
def table : List W32 := (List.range 256).map entry
/-- A byte's step, by a table. -/
def step (t : List W32) (s : W32) (b : UInt8) : W32 := (s >>> 8) ^^^ t.getD ((s.setWidth 8) ^^^ b.toBitVec).toNat 0#32
def upd (t : List W32) (s : W32) (bs : List UInt8) : W32 := bs.foldl (step t) s
def sum (t : List W32) (bs : List UInt8) : W32 := ~~~ (upd t (~~~ 0#32) bs)
def crc (bs : List UInt8) : W32 := sum table bs
/-- A byte's step without a table. -/
def cstep (s : W32) (b : UInt8) : W32 := bsteps 8 (s ^^^ b.toBitVec.setWidth 32)
def cupd (s : W32) (bs : List UInt8) : W32 := bs.foldl cstep s

theorem bstep_xor (a b : W32) : bstep (a ^^^ b) = bstep a ^^^ bstep b := by
  unfold bstep
  rw [BitVec.ushiftRight_xor_distrib, BitVec.getLsbD_xor]
  generalize a >>> 1 = x
  generalize b >>> 1 = y
  cases a.getLsbD 0 <;> cases b.getLsbD 0
  · simp
  · simp only [Bool.xor_true, Bool.not_false, if_true, Bool.false_eq_true, if_false, BitVec.xor_zero]; ac_rfl
  · simp only [Bool.xor_false, if_true, Bool.false_eq_true, if_false, BitVec.xor_zero]; ac_rfl
  · have : x ^^^ poly ^^^ (y ^^^ poly) = x ^^^ y ^^^ (poly ^^^ poly) := by ac_rfl
    simp only [bne_self_eq_false, Bool.false_eq_true, if_false, if_true, this, BitVec.xor_self]
theorem bsteps_xor (n : Nat) : ∀ a b : W32, bsteps n (a ^^^ b) = bsteps n a ^^^ bsteps n b := by
  induction n with
  | zero => intro a b; rfl
  | succ n ih => intro a b; simp only [bsteps, bstep_xor, ih]
theorem bstep_zero : bstep 0#32 = 0#32 := by decide
theorem bsteps_zero (n : Nat) : bsteps n 0#32 = 0#32 := by
  induction n with
  | zero => rfl
  | succ n ih => simp only [bsteps, bstep_zero, ih]
theorem bsteps_add (m n : Nat) : ∀ v, bsteps (m + n) v = bsteps n (bsteps m v) := by
  induction m with
  | zero => intro v; simp [bsteps]
  | succ m ih => intro v; rw [Nat.add_right_comm]; simp only [bsteps, ih]
theorem bstep_inj0 {v : W32} (h : bstep v = 0#32) : v = 0#32 := by
  unfold bstep at h
  by_cases hb : v.getLsbD 0 = true
  · rw [if_pos hb] at h
    exfalso
    have h31 := congrArg (fun x => x.getLsbD 31) h
    simp [BitVec.getLsbD_xor, BitVec.getLsbD_ushiftRight] at h31
    revert h31
    decide
  · have hb' : v.getLsbD 0 = false := by simpa using hb
    rw [if_neg hb] at h
    simp at h
    apply BitVec.eq_of_getLsbD_eq
    intro i hi
    simp only [BitVec.getLsbD_zero]
    rcases i with _ | i
    · exact hb'
    · have := congrArg (fun x => x.getLsbD i) h
      simpa [BitVec.getLsbD_ushiftRight, Nat.add_comm] using this
theorem bsteps_inj0 (n : Nat) : ∀ {v : W32}, bsteps n v = 0#32 → v = 0#32 := by
  induction n with
  | zero => intro v h; exact h
  | succ n ih => intro v h; exact bstep_inj0 (ih h)
/-- High bits fall through eight steps. -/
theorem bstep_shift (v : W32) (h : v.getLsbD 0 = false) : bstep v = v >>> 1 := by
  unfold bstep; rw [h]; simp
theorem bsteps_high (n : Nat) : ∀ (v : W32), (∀ i, i < n → v.getLsbD i = false) → bsteps n v = v >>> n := by
  induction n with
  | zero => intro v _; simp [bsteps]
  | succ n ih =>
    intro v h
    simp only [bsteps]
    rw [bstep_shift v (h 0 (by omega)), ih]
    · rw [← BitVec.shiftRight_add, Nat.add_comm]
    · intro i hi
      rw [BitVec.getLsbD_ushiftRight]
      exact h _ (by omega)
/-- The table's step is the step without one. -/
theorem split_low (s : W32) : s = ((s >>> 8) <<< 8) ^^^ (s.setWidth 8).setWidth 32 := by
  apply BitVec.eq_of_getLsbD_eq
  intro i hi
  simp only [BitVec.getLsbD_xor, BitVec.getLsbD_shiftLeft, BitVec.getLsbD_ushiftRight, BitVec.getLsbD_setWidth]
  by_cases h8 : i < 8
  · simp [h8, hi]
  · simp [h8, hi, show 8 + (i - 8) = i by omega]
theorem entry_of (x : BitVec 8) : table.getD x.toNat 0#32 = bsteps 8 (x.setWidth 32) := by
  have hx : x.toNat < 256 := x.isLt
  unfold table
  rw [List.getD_eq_getElem?_getD, List.getElem?_map, List.getElem?_range hx]
  simp only [Option.map_some, Option.getD_some, entry]
  congr 1
  apply BitVec.eq_of_toNat_eq
  simp only [BitVec.toNat_ofNat, BitVec.toNat_setWidth]
theorem step_table (s : W32) (b : UInt8) : step table s b = cstep s b := by
  unfold step cstep
  rw [entry_of]
  have h1 : s ^^^ b.toBitVec.setWidth 32 = ((s >>> 8) <<< 8) ^^^ ((s.setWidth 8) ^^^ b.toBitVec).setWidth 32 := by
    conv => lhs; rw [split_low s]
    rw [BitVec.xor_assoc, ← BitVec.setWidth_xor]
  rw [h1, bsteps_xor]
  congr 1
  rw [bsteps_high]
  · apply BitVec.eq_of_getLsbD_eq
    intro i hi
    simp only [BitVec.getLsbD_ushiftRight, BitVec.getLsbD_shiftLeft]
    by_cases h : 8 + i < 32
    · simp [h, show 8 + (8 + i - 8) = 8 + i by omega]
    · have : s.getLsbD (8 + i) = false := BitVec.getLsbD_of_ge _ _ (by omega)
      simp [h, this]
  · intro i hi
    simp only [BitVec.getLsbD_shiftLeft]
    simp [hi]
theorem upd_table (s : W32) (bs : List UInt8) : upd table s bs = cupd s bs := by
  unfold upd cupd
  induction bs generalizing s with
  | nil => rfl
  | cons b r ih => simp only [List.foldl_cons, step_table, ih]
theorem crc_eq (bs : List UInt8) : crc bs = ~~~ (cupd (~~~ 0#32) bs) := by rw [crc, sum, upd_table]
theorem upd_append (t : List W32) (s : W32) (a b : List UInt8) : upd t s (a ++ b) = upd t (upd t s a) b := by simp [upd]
theorem cupd_append (s : W32) (a b : List UInt8) : cupd s (a ++ b) = cupd (cupd s a) b := by simp [cupd]
/-- States and bytes are turned together. -/
def xors : List UInt8 → List UInt8 → List UInt8 := List.zipWith (· ^^^ ·)
theorem cupd_xor : ∀ (a b : List UInt8) (s t : W32), a.length = b.length → cupd (s ^^^ t) (xors a b) = cupd s a ^^^ cupd t b := by
  intro a
  induction a with
  | nil => intro b s t h; cases b with
    | nil => rfl
    | cons _ _ => simp at h
  | cons x r ih =>
    intro b s t h
    cases b with
    | nil => simp at h
    | cons y q =>
      simp only [xors, List.zipWith_cons_cons, cupd, List.foldl_cons]
      have : cstep (s ^^^ t) (x ^^^ y) = cstep s x ^^^ cstep t y := by
        unfold cstep
        rw [← bsteps_xor]
        congr 1
        rw [UInt8.toBitVec_xor, BitVec.setWidth_xor]
        ac_rfl
      rw [this]
      exact ih q _ _ (by simpa using h)
end Go.Proofs.YtcjobbcijbkjkaaGreat.Crc

/- Bits turned within bytes, and what a check tells of them. It speaks of no program. -/
set_option linter.unusedVariables false
set_option linter.unusedSimpArgs false
namespace Go.Proofs.YtcjobbcijbkjkaaGreat.Crc
open Go.Proofs.YtcjobbcijbkjkaaGreat.V (le lev le_length lev_le le_lev lev_lt le_succ)

def ob (f : Nat → Bool) : BitVec 8 := BitVec.ofNat 8 ((f 0).toNat + 2 * (f 1).toNat + 4 * (f 2).toNat + 8 * (f 3).toNat + 16 * (f 4).toNat + 32 * (f 5).toNat + 64 * (f 6).toNat + 128 * (f 7).toNat)
theorem ob8 : ∀ b0 b1 b2 b3 b4 b5 b6 b7 : Bool, let v := BitVec.ofNat 8 (b0.toNat + 2 * b1.toNat + 4 * b2.toNat + 8 * b3.toNat + 16 * b4.toNat + 32 * b5.toNat + 64 * b6.toNat + 128 * b7.toNat)
    v.getLsbD 0 = b0 ∧ v.getLsbD 1 = b1 ∧ v.getLsbD 2 = b2 ∧ v.getLsbD 3 = b3 ∧ v.getLsbD 4 = b4 ∧ v.getLsbD 5 = b5 ∧ v.getLsbD 6 = b6 ∧ v.getLsbD 7 = b7 := by decide
theorem get_ob (f : Nat → Bool) {j : Nat} (h : j < 8) : (ob f).getLsbD j = f j := by
  obtain ⟨h0, h1, h2, h3, h4, h5, h6, h7⟩ := ob8 (f 0) (f 1) (f 2) (f 3) (f 4) (f 5) (f 6) (f 7)
  match j, h with
  | 0, _ => exact h0
  | 1, _ => exact h1
  | 2, _ => exact h2
  | 3, _ => exact h3
  | 4, _ => exact h4
  | 5, _ => exact h5
  | 6, _ => exact h6
  | 7, _ => exact h7
attribute [irreducible] ob
theorem bv8_ext {a b : BitVec 8} (h : ∀ j, j < 8 → a.getLsbD j = b.getLsbD j) : a = b := BitVec.eq_of_getLsbD_eq (fun i hi => h i hi)
theorem shl_bit : ∀ r : Fin 8, ∀ j : Fin 8, ∀ m : Bool, (BitVec.ofNat 8 m.toNat <<< r.val).getLsbD j.val = (m && decide (j = r)) := by decide
/-- The bit that is turned at place p. -/
def fbit (bit n : Nat) (m : W32) (p : Nat) : Bool := decide (bit ≤ p ∧ p < bit + n) && m.getLsbD (p - bit)
def fbyte (bit n : Nat) (m : W32) (at' : Nat) : UInt8 := ⟨ob fun j => fbit bit n m (8 * at' + j)⟩
theorem get_fbyte (bit n : Nat) (m : W32) (at' : Nat) {j : Nat} (h : j < 8) : (fbyte bit n m at').toBitVec.getLsbD j = fbit bit n m (8 * at' + j) := get_ob _ h
def flipd (len bit n : Nat) (m : W32) : List UInt8 := (List.range len).map (fbyte bit n m)
def flip (bs : List UInt8) (bit n : Nat) (m : W32) : List UInt8 := xors bs (flipd bs.length bit n m)
theorem length_flipd (len bit n : Nat) (m : W32) : (flipd len bit n m).length = len := by simp [flipd]
theorem length_xors (a b : List UInt8) : (xors a b).length = min a.length b.length := by simp [xors]
theorem length_flip (bs : List UInt8) (bit n : Nat) (m : W32) : (flip bs bit n m).length = bs.length := by simp [flip, length_xors, length_flipd]
theorem fbyte_zero (bit : Nat) (m : W32) (at' : Nat) : fbyte bit 0 m at' = 0 := by
  apply UInt8.eq_of_toBitVec_eq
  apply bv8_ext
  intro j hj
  rw [get_fbyte _ _ _ _ hj]
  have : fbit bit 0 m (8 * at' + j) = false := by
    unfold fbit
    rw [decide_eq_false (by omega), Bool.false_and]
  rw [this]
  simp
theorem getD_set (l : List UInt8) (k i : Nat) (x : UInt8) : (l.set k x).getD i 0 = if k = i ∧ k < l.length then x else l.getD i 0 := by
  simp only [List.getD_eq_getElem?_getD, List.getElem?_set]
  by_cases h : k = i
  · subst h
    by_cases h2 : k < l.length
    · simp [h2]
    · simp [h2, List.getElem?_eq_none (Nat.not_lt.1 h2)]
  · simp [h]
theorem u8_xor_zero (b : UInt8) : b ^^^ 0 = b := UInt8.xor_zero
theorem getD_flipd {len i bit n : Nat} {m : W32} (h : i < len) : (flipd len bit n m).getD i 0 = fbyte bit n m i := by simp [flipd, h]
theorem getD_xors {a b : List UInt8} (h : a.length = b.length) (i : Nat) : (xors a b).getD i 0 = a.getD i 0 ^^^ b.getD i 0 := by
  rcases Nat.lt_or_ge i a.length with hi | hi
  · simp [xors, List.getD_eq_getElem?_getD, List.getElem?_zipWith, List.getElem?_eq_getElem hi, List.getElem?_eq_getElem (show i < b.length by omega)]
  · simp [xors, List.getD_eq_getElem?_getD, List.getElem?_zipWith, List.getElem?_eq_none hi, List.getElem?_eq_none (show b.length ≤ i by omega)]
theorem bytes_ext {a b : List UInt8} (hl : a.length = b.length) (h : ∀ i, i < a.length → a.getD i 0 = b.getD i 0) : a = b := by
  apply List.ext_getElem hl
  intro i h1 h2
  have := h i h1
  simpa [List.getD_eq_getElem?_getD, List.getElem?_eq_getElem h1, List.getElem?_eq_getElem h2] using this
theorem flip_zero (bs : List UInt8) (bit : Nat) (m : W32) : flip bs bit 0 m = bs := by
  apply bytes_ext (length_flip _ _ _ _)
  intro i hi
  rw [length_flip] at hi
  rw [flip, getD_xors (by rw [length_flipd]), getD_flipd hi, fbyte_zero, u8_xor_zero]
theorem fbit_succ (bit n : Nat) (m : W32) (p : Nat) : fbit bit (n + 1) m p = (fbit bit n m p ^^ (decide (p = bit + n) && m.getLsbD n)) := by
  unfold fbit
  by_cases h : p = bit + n
  · subst h
    simp [Nat.add_sub_cancel_left]
  · have : (bit ≤ p ∧ p < bit + (n + 1)) ↔ (bit ≤ p ∧ p < bit + n) := by omega
    simp [h, this]
theorem fbyte_succ (bit n : Nat) (m : W32) (at' : Nat) : (fbyte bit (n + 1) m at').toBitVec = (fbyte bit n m at').toBitVec ^^^ (if at' = (bit + n) / 8 then BitVec.ofNat 8 (m.getLsbD n).toNat <<< ((bit + n) % 8) else 0#8) := by
  apply bv8_ext
  intro j hj
  rw [BitVec.getLsbD_xor]
  rw [get_fbyte _ _ _ _ hj, get_fbyte _ _ _ _ hj, fbit_succ]
  congr 1
  split
  · rename_i h
    have hr : (bit + n) % 8 < 8 := by omega
    have := shl_bit ⟨(bit + n) % 8, hr⟩ ⟨j, hj⟩ (m.getLsbD n)
    simp only at this
    rw [this, Bool.and_comm]
    congr 1
    simp only [Fin.mk.injEq]
    exact decide_eq_decide.2 (by omega)
  · rename_i h
    have : ¬ (8 * at' + j = bit + n) := by omega
    simp [this]
/-- One more bit. -/
theorem flip_succ {bs : List UInt8} {bit n : Nat} {m : W32} (h : (bit + n) / 8 < bs.length) :
    flip bs bit (n + 1) m = (flip bs bit n m).set ((bit + n) / 8) ⟨((flip bs bit n m).getD ((bit + n) / 8) 0).toBitVec ^^^ (BitVec.ofNat 8 (m.getLsbD n).toNat <<< ((bit + n) % 8))⟩ := by
  apply bytes_ext (by simp [length_flip])
  intro i hi
  rw [length_flip] at hi
  have e : ∀ k, (flip bs bit k m).getD i 0 = bs.getD i 0 ^^^ fbyte bit k m i := fun k => by rw [flip, getD_xors (by rw [length_flipd]), getD_flipd hi]
  rw [e]
  have hs := fbyte_succ bit n m i
  by_cases hat : i = (bit + n) / 8
  · subst hat
    rw [getD_set, if_pos ⟨rfl, by rw [length_flip]; exact h⟩, e]
    rw [if_pos rfl] at hs
    apply UInt8.eq_of_toBitVec_eq
    simp only [UInt8.toBitVec_xor, hs, BitVec.xor_assoc]
  · rw [getD_set, if_neg (fun h => hat h.1.symm), e]
    rw [if_neg hat, BitVec.xor_zero] at hs
    congr 1
    exact UInt8.eq_of_toBitVec_eq hs
theorem flip_same {bs : List UInt8} {bit n : Nat} {m : W32} (h : m.getLsbD n = false) : flip bs bit (n + 1) m = flip bs bit n m := by
  unfold flip flipd
  congr 1
  apply List.map_congr_left
  intro i _
  apply UInt8.eq_of_toBitVec_eq
  rw [fbyte_succ, h]
  split <;> simp
/-- What lies behind the end turns nothing. -/
theorem flip_beyond {bs : List UInt8} {bit n k : Nat} {m : W32} (h : 8 * bs.length ≤ bit + n) (hk : n ≤ k) : flip bs bit k m = flip bs bit n m := by
  unfold flip flipd
  congr 1
  apply List.map_congr_left
  intro i hi
  rw [List.mem_range] at hi
  apply UInt8.eq_of_toBitVec_eq
  apply bv8_ext
  intro j hj
  rw [get_fbyte _ _ _ _ hj, get_fbyte _ _ _ _ hj]
  unfold fbit
  congr 1
  exact decide_eq_decide.2 (by omega)
theorem xors_self : ∀ a : List UInt8, ∀ b, b.length = a.length → xors (xors a b) b = a := by
  intro a b h
  apply bytes_ext (by simp [length_xors, h])
  intro i hi
  rw [getD_xors (by simp [length_xors, h]), getD_xors h.symm, UInt8.xor_assoc, UInt8.xor_self, u8_xor_zero]
theorem flip_flip (bs : List UInt8) (bit n : Nat) (m : W32) : flip (flip bs bit n m) bit n m = bs := by
  unfold flip
  rw [length_xors, length_flipd, Nat.min_self]
  exact xors_self _ _ (length_flipd _ _ _ _)

/-! ### Bit by bit -/
def bw (b : Bool) : W32 := if b then 1#32 else 0#32
def cbits (s : W32) (l : List Bool) : W32 := l.foldl (fun s b => bstep (s ^^^ bw b)) s
def word : List Bool → W32
  | [] => 0#32
  | b :: r => bw b ^^^ (word r <<< 1)
def bitsOf (b : BitVec 8) : List Bool := (List.range 8).map b.getLsbD
def toBits (bs : List UInt8) : List Bool := bs.flatMap fun b => bitsOf b.toBitVec
theorem word_lt : ∀ (l : List Bool) (i : Nat), l.length ≤ i → (word l).getLsbD i = false
  | [], i, _ => by simp [word]
  | b :: r, i, h => by
    simp only [List.length_cons] at h
    simp only [word, BitVec.getLsbD_xor, BitVec.getLsbD_shiftLeft]
    rw [word_lt r (i - 1) (by omega)]
    have : (bw b).getLsbD i = false := by
      cases b
      · simp [bw]
      · simp only [bw, if_true, BitVec.getLsbD_one]
        simp; omega
    simp [this]
theorem bstep_shl (v : W32) (h : v.getLsbD 31 = false) : bstep (v <<< 1) = v := by
  rw [bstep_shift _ (by simp)]
  apply BitVec.eq_of_getLsbD_eq
  intro i hi
  rw [BitVec.getLsbD_ushiftRight, BitVec.getLsbD_shiftLeft]
  by_cases h31 : i = 31
  · subst h31; rw [h]; simp
  · simp [show 1 + i < 32 by omega]
theorem cbits_word : ∀ (l : List Bool) (s : W32), l.length ≤ 32 → cbits s l = bsteps l.length (s ^^^ word l)
  | [], s, _ => by simp [cbits, word, bsteps]
  | b :: r, s, h => by
    simp only [List.length_cons] at h
    have e : cbits s (b :: r) = cbits (bstep (s ^^^ bw b)) r := rfl
    rw [e, cbits_word r _ (by omega), List.length_cons, Nat.add_comm, bsteps_add]
    congr 1
    show _ = bstep _
    simp only [word]
    rw [← BitVec.xor_assoc, bstep_xor (s ^^^ bw b) (word r <<< 1), bstep_shl _ (word_lt r 31 (by omega))]
theorem cbits_append (s : W32) (a b : List Bool) : cbits s (a ++ b) = cbits (cbits s a) b := by simp [cbits]
theorem cbits_false (n : Nat) : ∀ s, cbits s (List.replicate n false) = bsteps n s := by
  induction n with
  | zero => intro s; rfl
  | succ n ih =>
    intro s
    rw [List.replicate_succ]
    show cbits (bstep (s ^^^ bw false)) _ = _
    rw [ih, Nat.add_comm, bsteps_add]
    simp [bw, bsteps]
theorem word_zero : ∀ (l : List Bool), l.length ≤ 32 → word l = 0#32 → l = List.replicate l.length false
  | [], _, _ => rfl
  | b :: r, h, hw => by
    simp only [List.length_cons] at h
    simp only [word] at hw
    have h0 := congrArg (fun v => v.getLsbD 0) hw
    have hb : b = false := by
      cases b
      · rfl
      · simp [bw] at h0
    subst hb
    simp only [bw] at hw
    have hr : word r = 0#32 := by
      have h1 : word r <<< 1 = 0#32 := by simpa using hw
      have := bstep_shl (word r) (word_lt r 31 (by omega))
      rw [h1, bstep_zero] at this
      exact this.symm
    rw [List.length_cons, List.replicate_succ, ← word_zero r (by omega) hr]
theorem bitsOf_word (b : BitVec 8) : word (bitsOf b) = b.setWidth 32 := by
  have : ∀ b : BitVec 8, word (bitsOf b) = b.setWidth 32 := by decide
  exact this b
theorem cstep_bits (s : W32) (b : UInt8) : cstep s b = cbits s (bitsOf b.toBitVec) := by
  rw [cbits_word _ _ (by simp [bitsOf]), bitsOf_word]
  simp [cstep, bitsOf]
theorem cupd_bits : ∀ (bs : List UInt8) (s : W32), cupd s bs = cbits s (toBits bs)
  | [], s => rfl
  | b :: r, s => by
    show cupd (cstep s b) r = cbits s (bitsOf b.toBitVec ++ toBits r)
    rw [cbits_append, cupd_bits r, cstep_bits]
/-- A burst within 32 bits from nought is told. -/
theorem burst_zero (p q : Nat) (l : List Bool) (h : l.length ≤ 32) (hz : cbits 0#32 (List.replicate p false ++ l ++ List.replicate q false) = 0#32) : l = List.replicate l.length false := by
  rw [cbits_append, cbits_append, cbits_false p, bsteps_zero, cbits_false q, cbits_word _ _ h] at hz
  have h1 := bsteps_inj0 _ (bsteps_inj0 _ hz)
  rw [BitVec.zero_xor] at h1
  exact word_zero l h h1
theorem toBits_flipd (bit n : Nat) (m : W32) : ∀ len, toBits (flipd len bit n m) = (List.range (8 * len)).map (fbit bit n m) := by
  intro len
  induction len with
  | zero => rfl
  | succ len ih =>
    have e : flipd (len + 1) bit n m = flipd len bit n m ++ [fbyte bit n m len] := by simp [flipd, List.range_succ]
    rw [e]
    unfold toBits at ih ⊢
    rw [List.flatMap_append, ih, show 8 * (len + 1) = 8 * len + 8 by omega, List.range_add, List.map_append]
    congr 1
    simp only [List.flatMap_cons, List.flatMap_nil, List.append_nil, bitsOf, List.map_map]
    apply List.map_congr_left
    intro j hj
    rw [List.mem_range] at hj
    exact get_fbyte _ _ _ _ hj
theorem range_parts (f : Nat → Bool) (N a b : Nat) (hab : a ≤ b) (hb : b ≤ N) (h0 : ∀ i, i < a → f i = false) (h1 : ∀ i, b ≤ i → f i = false) :
    (List.range N).map f = List.replicate a false ++ (List.range (b - a)).map (fun i => f (a + i)) ++ List.replicate (N - b) false := by
  obtain ⟨k, rfl⟩ : ∃ k, b = a + k := ⟨b - a, by omega⟩
  obtain ⟨c, rfl⟩ : ∃ c, N = a + k + c := ⟨N - (a + k), by omega⟩
  rw [show a + k - a = k by omega, show a + k + c - (a + k) = c by omega, List.range_add, List.range_add, List.map_append, List.map_append, List.map_map, List.map_map]
  congr 1
  · congr 1
    rw [List.eq_replicate_iff]
    refine ⟨by simp, fun x hx => ?_⟩
    obtain ⟨i, hi, rfl⟩ := List.mem_map.1 hx
    exact h0 i (List.mem_range.1 hi)
  · rw [List.eq_replicate_iff]
    refine ⟨by simp, fun x hx => ?_⟩
    obtain ⟨i, hi, rfl⟩ := List.mem_map.1 hx
    exact h1 _ (by simp only [Function.comp]; omega)
/-- Bits turned within 32 that leave the state as it was are none. -/
theorem flip_told {bs : List UInt8} {bit n : Nat} {m s : W32} (hn : n ≤ 32) (h : cupd s (flip bs bit n m) = cupd s bs) : flip bs bit n m = bs := by
  have h1 := cupd_xor bs (flipd bs.length bit n m) s 0#32 (by rw [length_flipd])
  rw [BitVec.xor_zero] at h1
  have h2 : cupd 0#32 (flipd bs.length bit n m) = 0#32 := by
    unfold flip at h
    rw [h] at h1
    have := congrArg (cupd s bs ^^^ ·) h1
    simp only [BitVec.xor_self, ← BitVec.xor_assoc, BitVec.zero_xor] at this
    exact this.symm
  rw [cupd_bits, toBits_flipd] at h2
  rcases Nat.lt_or_ge bit (8 * bs.length) with hb | hb
  · -- the window, cut at the end
    obtain ⟨k, hk1, hk2, hk3⟩ : ∃ k, k ≤ n ∧ bit + k ≤ 8 * bs.length ∧ (k = n ∨ bit + k = 8 * bs.length) := by
      rcases Nat.lt_or_ge (bit + n) (8 * bs.length) with h | h
      · exact ⟨n, by omega, by omega, .inl rfl⟩
      · exact ⟨8 * bs.length - bit, by omega, by omega, .inr (by omega)⟩
    have hkk : flip bs bit n m = flip bs bit k m := by
      rcases hk3 with rfl | h
      · rfl
      · exact flip_beyond (by omega) hk1
    have hfd : ∀ i, i < 8 * bs.length → fbit bit n m i = fbit bit k m i := by
      intro i hi
      unfold fbit
      congr 1
      exact decide_eq_decide.2 (by omega)
    rw [hkk]
    have hp := range_parts (fbit bit k m) (8 * bs.length) bit (bit + k) (by omega) hk2
      (fun i hi => by unfold fbit; rw [decide_eq_false (by omega), Bool.false_and]) (fun i hi => by unfold fbit; rw [decide_eq_false (by omega), Bool.false_and])
    have hm : (List.range (8 * bs.length)).map (fbit bit n m) = (List.range (8 * bs.length)).map (fbit bit k m) := List.map_congr_left fun i hi => hfd i (List.mem_range.1 hi)
    rw [hm, hp] at h2
    have h3 := burst_zero _ _ _ (by simp; omega) h2
    have h4 : ∀ i, i < bs.length → fbyte bit k m i = 0 := by
      intro i hi
      apply UInt8.eq_of_toBitVec_eq
      apply bv8_ext
      intro j hj
      rw [get_fbyte _ _ _ _ hj]
      have h5 : (List.range (8 * bs.length)).map (fbit bit k m) = List.replicate (8 * bs.length) false := by
        rw [hp, h3]
        simp only [List.length_map, List.length_range, List.replicate_append_replicate]
        congr 1
        omega
      have h6 := congrArg (fun l => l[8 * i + j]?) h5
      simp only [List.getElem?_map, List.getElem?_range (show 8 * i + j < 8 * bs.length by omega), Option.map_some, List.getElem?_replicate, if_pos (show 8 * i + j < 8 * bs.length by omega), Option.some.injEq] at h6
      rw [h6]
      simp
    apply bytes_ext (length_flip _ _ _ _)
    intro i hi
    rw [length_flip] at hi
    rw [flip, getD_xors (by rw [length_flipd]), getD_flipd hi, h4 i hi, u8_xor_zero]
  · have := flip_beyond (bs := bs) (bit := bit) (n := 0) (k := n) (m := m) (by omega) (by omega)
    rw [this, flip_zero]
/-! ### A check behind its bytes -/
theorem word_append : ∀ (a b : List Bool), word (a ++ b) = word a ^^^ (word b <<< a.length)
  | [], b => by simp [word]
  | x :: r, b => by
    simp only [List.cons_append, word, word_append r b, BitVec.shiftLeft_xor_distrib, BitVec.xor_assoc, List.length_cons, Nat.add_comm r.length 1]
    rw [Nat.add_comm 1, BitVec.shiftLeft_add]
theorem length_bitsOf (b : BitVec 8) : (bitsOf b).length = 8 := by simp [bitsOf]
theorem ofNat_byte (v : W32) (i : Nat) : (UInt8.ofNat (v.toNat / 256 ^ i)).toBitVec = (v >>> (8 * i)).setWidth 8 := by
  apply BitVec.eq_of_toNat_eq
  rw [BitVec.toNat_setWidth, BitVec.toNat_ushiftRight, Nat.shiftRight_eq_div_pow, Nat.pow_mul]
  simp [UInt8.toNat_ofNat']
theorem getLsbD_byte (v : W32) (k i : Nat) (hi : i < 32) : ((((v >>> k).setWidth 8).setWidth 32) <<< k).getLsbD i = (decide (k ≤ i ∧ i < k + 8) && v.getLsbD i) := by
  simp only [BitVec.getLsbD_shiftLeft, BitVec.getLsbD_setWidth, BitVec.getLsbD_ushiftRight, hi, decide_true, Bool.true_and]
  by_cases h : k ≤ i
  · rw [show k + (i - k) = i by omega]
    by_cases h2 : i < k + 8
    · simp [h, h2, show ¬ i < k by omega, show i - k < 8 by omega, show i - k < 32 by omega]
    · simp [h, h2, show ¬ i - k < 8 by omega]
  · simp [h, show i < k by omega]
theorem word_le (v : W32) : word (toBits (le 4 v.toNat)) = v := by
  have e : toBits (le 4 v.toNat) = bitsOf ((v >>> (8 * 0)).setWidth 8) ++ (bitsOf ((v >>> (8 * 1)).setWidth 8) ++ (bitsOf ((v >>> (8 * 2)).setWidth 8) ++ bitsOf ((v >>> (8 * 3)).setWidth 8))) := by
    simp only [← ofNat_byte]
    simp [le, toBits, List.range_succ]
  rw [e, word_append, word_append, word_append]
  simp only [bitsOf_word, length_bitsOf, BitVec.shiftLeft_xor_distrib]
  simp only [← BitVec.shiftLeft_add]
  apply BitVec.eq_of_getLsbD_eq
  intro i hi
  have g := fun k => getLsbD_byte v k i hi
  have g0 := g 0
  simp only [BitVec.shiftLeft_zero] at g0
  simp only [BitVec.getLsbD_xor, Nat.reduceMul, Nat.reduceAdd]
  rw [g0, g 8, g 16, g 24]
  rcases Nat.lt_or_ge i 8 with h | h
  · simp [h, show ¬ 8 ≤ i by omega, show ¬ 16 ≤ i by omega, show ¬ 24 ≤ i by omega]
  · rcases Nat.lt_or_ge i 16 with h1 | h1
    · simp [h, h1, show ¬ i < 8 by omega, show ¬ 16 ≤ i by omega, show ¬ 24 ≤ i by omega]
    · rcases Nat.lt_or_ge i 24 with h2 | h2
      · simp [h, h1, h2, show ¬ i < 8 by omega, show ¬ i < 16 by omega, show ¬ 24 ≤ i by omega]
      · simp [h, h1, h2, hi, show ¬ i < 8 by omega, show ¬ i < 16 by omega, show ¬ i < 24 by omega]
theorem length_toBits : ∀ bs : List UInt8, (toBits bs).length = 8 * bs.length
  | [] => rfl
  | b :: r => by
    have : toBits (b :: r) = bitsOf b.toBitVec ++ toBits r := rfl
    rw [this, List.length_append, length_bitsOf, length_toBits r, List.length_cons]
    omega
theorem xor_not_self (s : W32) : s ^^^ ~~~ s = BitVec.allOnes 32 := by
  apply BitVec.eq_of_getLsbD_eq
  intro i hi
  rw [BitVec.getLsbD_xor, BitVec.getLsbD_not, BitVec.getLsbD_allOnes]
  simp only [hi, decide_true, Bool.true_and]
  cases s.getLsbD i <;> rfl
theorem cupd_le (s v : W32) : cupd s (le 4 v.toNat) = bsteps 32 (s ^^^ v) := by
  rw [cupd_bits, cbits_word _ _ (by rw [length_toBits, le_length]; omega), word_le, length_toBits, le_length]
/-- The state behind any bytes and their check. -/
def residue : W32 := bsteps 32 (BitVec.allOnes 32)
theorem cupd_behind (a : List UInt8) : cupd (~~~ 0#32) (a ++ le 4 (crc a).toNat) = residue := by
  rw [cupd_append, cupd_le, crc_eq]
  unfold residue
  congr 1
  rw [xor_not_self]
theorem bsteps_inj {n : Nat} {a b : W32} (h : bsteps n a = bsteps n b) : a = b := by
  have h1 : bsteps n (a ^^^ b) = 0#32 := by rw [bsteps_xor, h, BitVec.xor_self]
  have h2 := bsteps_inj0 n h1
  have := congrArg (· ^^^ b) h2
  simpa [BitVec.xor_assoc] using this
/-- A check that stands behind its bytes is told by the state. -/
theorem good_iff {x : List UInt8} (h : 4 ≤ x.length) : (crc (x.take (x.length - 4))).toNat = lev (x.drop (x.length - 4)) ↔ cupd (~~~ 0#32) x = residue := by
  generalize hk : x.length - 4 = k
  have hd : (x.drop k).length = 4 := by simp; omega
  have hlt := lev_lt (x.drop k)
  rw [hd] at hlt
  have e : x = x.take k ++ le 4 (BitVec.ofNat 32 (lev (x.drop k))).toNat := by
    rw [BitVec.toNat_ofNat, Nat.mod_eq_of_lt (by simpa using hlt)]
    have := le_lev (x.drop k)
    rw [hd] at this
    rw [this, List.take_append_drop]
  have e2 : cupd (~~~ 0#32) x = bsteps 32 (cupd (~~~ 0#32) (x.take k) ^^^ BitVec.ofNat 32 (lev (x.drop k))) := by
    conv => lhs; rw [e]
    rw [cupd_append, cupd_le]
  rw [e2, crc_eq]
  generalize cupd (~~~ 0#32) (x.take k) = s
  constructor
  · intro h1
    rw [← h1, BitVec.ofNat_toNat, BitVec.setWidth_eq, xor_not_self]
    rfl
  · intro h1
    have h2 := bsteps_inj h1
    have h3 : BitVec.ofNat 32 (lev (x.drop k)) = ~~~ s := by
      have := congrArg (s ^^^ ·) h2
      simp only [← BitVec.xor_assoc, BitVec.xor_self, BitVec.zero_xor] at this
      rw [this, BitVec.xor_allOnes]
    rw [← h3, BitVec.toNat_ofNat, Nat.mod_eq_of_lt (by simpa using hlt)]
end Go.Proofs.YtcjobbcijbkjkaaGreat.Crc

/- Contracts of the package crc. -/
set_option linter.unusedVariables false
set_option linter.unusedSimpArgs false
namespace Go.Proofs.YtcjobbcijbkjkaaGreat.V
open Go Go.Proofs Crc

def tabV (T : List W32) : List Value := T.map fun t => .int .u32 (t.toNat : Int)
theorem length_tabV (T : List W32) : (tabV T).length = T.length := by simp [tabV]
theorem tabV_get {T : List W32} {i : Nat} (h : i < T.length) : (tabV T)[i]? = some (.int .u32 ((T.getD i 0).toNat : Int)) := by
  simp [tabV, h]

/-- Update. -/
theorem update_calls {w : World} {T : List W32} {s : W32} {A : Option Addr} {n c : Nat} {bs : List UInt8} (hT : T.length = 256) (h : Sl w A n (bV bs)) :
    Calls Tryz.prog 123 #[.agg (tabV T).toArray, .int .u32 (s.toNat : Int), .slice A n c] w (Ret fun v w' => v = .int .u32 ((upd T s bs).toNat : Int) ∧ Ext w w') := by
  apply calls123
  unfold S123
  apply newW_i
  have hb0 : Blk (w.alloc (.cells (tabV T).toArray 190)) w.heap.size (tabV T) 190 := by simpa using Blk.new w (tabV T).toArray _
  have he0 : Ext w (w.alloc (.cells (tabV T).toArray 190)) := (Ext.refl w).alloc _
  have hl := h.blen
  have hn := h.le
  generalize w.alloc (.cells (tabV T).toArray 190) = w1 at hb0 he0 ⊢
  refine loopW_i (fun x w' => w' = w1 ∧ ∃ i : Nat, i ≤ n ∧ x = (((upd T s (bs.take i)).toNat : Int), (i : Int), ())) (fun x => (n - x.2.1).toNat) ⟨rfl, 0, by omega, by simp [upd]⟩ ?_
  rintro _ w' ⟨rfl, i, hi, rfl⟩
  dsimp only
  have h1 := h.ext he0
  by_cases hlt : i < n
  · refine splitW_t (decide_eq_true (by omega)) ?_
    refine idx_byte h1 (by omega) (by omega) ?_
    have hidx : ixor .u8 (IntKind.wrap .u8 ((upd T s (bs.take i)).toNat : Int)) ((bs.getD (Int.toNat (i : Int)) 0).toNat : Int) = ((((upd T s (bs.take i)).setWidth 8) ^^^ (bs.getD i 0).toBitVec).toNat : Int) := by
      rw [wrap_u8_bv32, u8_toBitVec, ixor8]; rfl
    rw [hidx]
    have hx : (((upd T s (bs.take i)).setWidth 8) ^^^ (bs.getD i 0).toBitVec).toNat < 256 := (((upd T s (bs.take i)).setWidth 8) ^^^ (bs.getD i 0).toBitVec).isLt
    refine ⟨⟨by omega, by omega⟩, ?_⟩
    rw [Int.toNat_natCast, Nat.mul_one, add_mk, Nat.zero_add]
    refine ldW_blk hb0 (tabV_get (by omega)) ?_
    rw [wrap_i64_nat (by omega) (by omega)]
    refine ⟨⟨rfl, i + 1, by omega, ?_⟩, by omega⟩
    rw [show ishr .u32 ((upd T s (bs.take i)).toNat : Int) (8 : Int) = ((upd T s (bs.take i) >>> 8).toNat : Int) from ishr32 _ 8 (by omega), ixor32]
    have e : upd T s (bs.take (i + 1)) = Crc.step T (upd T s (bs.take i)) (bs.getD i 0) := by
      rw [List.take_succ_eq_append_getElem (by omega)]
      simp only [upd, List.foldl_append, List.foldl_cons, List.foldl_nil]
      rw [List.getD_eq_getElem?_getD, List.getElem?_eq_getElem (by omega)]
      rfl
    rw [e]
    rfl
  · obtain rfl : i = n := by omega
    refine splitW_f (decide_eq_false (by omega)) ?_
    rw [List.take_of_length_le (by omega)]
    exact ⟨rfl, he0⟩

/-- Table. -/
theorem table_calls (w : World) : Calls Tryz.prog 117 #[] w (Ret fun v w' => v = .agg (tabV table).toArray ∧ Ext w w') := by
  apply calls117
  unfold S117
  apply newW_i
  have hz : (zeroC Tryz.prog 190).toList = List.replicate 256 (.int .u32 0) := by kernel_rfl
  have hb0 : Blk (w.alloc (.cells (zeroC Tryz.prog 190) 190)) w.heap.size (List.replicate 256 (.int .u32 0)) 190 := by rw [← hz]; exact Blk.new w _ _
  have he0 : Ext w (w.alloc (.cells (zeroC Tryz.prog 190) 190)) := (Ext.refl w).alloc _
  generalize w.alloc (.cells (zeroC Tryz.prog 190) 190) = w1 at hb0 he0 ⊢
  refine loopW_i (fun x w' => Ext w w' ∧ ∃ i : Nat, i ≤ 256 ∧ x = ((i : Int), ()) ∧ Blk w' w.heap.size (tabV (table.take i) ++ List.replicate (256 - i) (.int .u32 0)) 190) (fun x => (256 - x.1).toNat) ⟨he0, 0, by omega, rfl, hb0⟩ ?_
  rintro _ w' ⟨he, i, hi, rfl, hb⟩
  dsimp only
  by_cases hlt : i < 256
  · refine splitW_t (decide_eq_true (by omega)) ?_
    have e0 : IntKind.wrap .u32 (i : Int) = ((BitVec.ofNat 32 i).toNat : Int) := by
      rw [wrap_u32, BitVec.toNat_ofNat]; simp only [Nat.reducePow]; omega
    rw [e0]
    refine loopW_i (fun x w'' => w'' = w' ∧ ∃ k : Nat, k ≤ 8 ∧ x = (((bsteps k (BitVec.ofNat 32 i)).toNat : Int), (k : Int), ())) (fun x => (8 - x.2.1).toNat) ⟨rfl, 0, by omega, rfl⟩ ?_
    rintro _ _ ⟨rfl, k, hk, rfl⟩
    dsimp only
    by_cases hk8 : k < 8
    · refine splitW_t (decide_eq_true (by omega)) ?_
      rw [wrap_i64_nat (by omega) (by omega)]
      refine ⟨⟨rfl, k + 1, by omega, ?_⟩, by omega⟩
      generalize hv : bsteps k (BitVec.ofNat 32 i) = v
      have e1 : bsteps (k + 1) (BitVec.ofNat 32 i) = bstep v := by rw [bsteps_add, hv]; rfl
      rw [e1]
      have e2 : (v &&& 1#32) = if v.getLsbD 0 then 1#32 else 0#32 := by
        have : v.getLsbD 0 = v.toNat.testBit 0 := rfl
        apply BitVec.eq_of_toNat_eq
        rw [BitVec.toNat_and, this, Nat.testBit_zero]
        simp only [BitVec.toNat_ofNat, Nat.reducePow, Nat.reduceMod, Nat.and_one_is_mod]
        by_cases h : v.toNat % 2 = 1
        · simp [h]
        · simp [show v.toNat % 2 = 0 by omega]
      have e3 : IntKind.wrap .u32 ((2197175160 : Int) * (iand .u32 (v.toNat : Int) (1 : Int))) = ((if v.getLsbD 0 then poly else 0#32).toNat : Int) := by
        rw [show iand .u32 (v.toNat : Int) (1 : Int) = ((v &&& 1#32).toNat : Int) from iand32 v 1#32, e2]
        cases v.getLsbD 0 <;> decide
      rw [e3, show ishr .u32 (v.toNat : Int) (1 : Int) = ((v >>> 1).toNat : Int) from ishr32 v 1 (by omega), ixor32]
      rfl
    · obtain rfl : k = 8 := by omega
      refine splitW_f (decide_eq_false (by omega)) ?_
      refine ⟨⟨by omega, by omega⟩, ?_⟩
      rw [Int.toNat_natCast, Nat.mul_one, add_mk, Nat.zero_add]
      refine stW_blk hb (by simp [length_tabV, table]; omega) ?_
      rw [wrap_i64_nat (by omega) (by omega)]
      refine ⟨⟨he.set (by simp) _, i + 1, by omega, rfl, ?_⟩, by omega⟩
      have h2 := hb.set i (.int .u32 ((bsteps 8 (BitVec.ofNat 32 i)).toNat : Int))
      have e3 : (tabV (table.take i) ++ List.replicate (256 - i) (Value.int .u32 0)).set i (.int .u32 ((bsteps 8 (BitVec.ofNat 32 i)).toNat : Int)) = tabV (table.take (i + 1)) ++ List.replicate (256 - (i + 1)) (Value.int .u32 0) := by
        have ht : (tabV (table.take i)).length = i := by simp [length_tabV, table]; omega
        rw [List.set_append_right _ _ (by omega), ht, Nat.sub_self, show 256 - i = (256 - (i + 1)) + 1 by omega, List.replicate_succ, List.set_cons_zero]
        rw [List.take_add_one, show table[i]? = some (entry i) by simp [table, hlt]]
        simp [tabV, entry]
      rw [e3] at h2
      exact h2
  · obtain rfl : i = 256 := by omega
    refine splitW_f (decide_eq_false (by omega)) ?_
    have hb2 : Blk w' w.heap.size (tabV table) 190 := by
      have : table.take 256 = table := List.take_of_length_le (by simp [table])
      rw [this] at hb
      simpa using hb
    have hlen : (tabV table).length = 256 := by simp [length_tabV, table]
    have hone : ∀ v ∈ tabV table, v.oneCell' = true := by
      intro v hv
      obtain ⟨t, _, rfl⟩ := List.mem_map.1 hv
      rfl
    generalize tabV table = TT at hb2 hlen hone ⊢
    refine ⟨TT.toArray, by simpa using hlen, hb2.cellsAt, by simpa using hlen, ?_, ?_⟩
    · exact hb2.storable_from TT 0 (by omega) hone
    · have hb3 := hb2.setCells TT rfl
      exact ⟨TT.toArray, by simpa using hlen, hb3.cellsAt, rfl, he.setCells (by simp) _ _ _⟩
theorem sum_calls {w : World} {T : List W32} {A : Option Addr} {n c : Nat} {bs : List UInt8} (hT : T.length = 256) (h : Sl w A n (bV bs)) :
    Calls Tryz.prog 116 #[.agg (tabV T).toArray, .slice A n c] w (Ret fun v w' => v = .int .u32 ((sum T bs).toNat : Int) ∧ Ext w w') := by
  apply calls116
  unfold S116
  apply newW_i
  have hb0 : Blk (w.alloc (.cells (tabV T).toArray 190)) w.heap.size (tabV T) 190 := by simpa using Blk.new w (tabV T).toArray _
  have he0 : Ext w (w.alloc (.cells (tabV T).toArray 190)) := (Ext.refl w).alloc _
  have hlen : (tabV T).length = 256 := by rw [length_tabV, hT]
  generalize w.alloc (.cells (tabV T).toArray 190) = w1 at hb0 he0 ⊢
  refine ldR_blk (cs := (tabV T).toArray) hb0 (by simpa using hlen) ?_
  have hc := update_calls (w := w1) (T := T) (s := 4294967295#32) (c := c) hT (h.ext he0)
  refine callW_of hc ?_
  rintro _ w2 ⟨rfl, he⟩
  refine ⟨_, rfl, ?_⟩
  rw [inot32]
  exact ⟨rfl, he0.trans he⟩
theorem crc_calls {w : World} {A : Option Addr} {n c : Nat} {bs : List UInt8} (h : Sl w A n (bV bs)) : Calls Tryz.prog 101 #[.slice A n c] w (Ret fun v w' => v = .int .u32 ((crc bs).toNat : Int) ∧ Ext w w') := by
  apply calls101
  unfold S101
  refine callW_of (table_calls w) ?_
  rintro _ w1 ⟨rfl, he⟩
  refine ⟨(tabV table).toArray, rfl, ?_⟩
  refine callW_of (sum_calls (by simp [table]) (h.ext he)) ?_
  rintro _ w2 ⟨rfl, he2⟩
  exact ⟨_, rfl, rfl, he.trans he2⟩
/-- What Flip gives. -/
def flipG (bs : List UInt8) (bit n : Int) (m : W32) : List UInt8 := if bit < 0 ∨ n < 0 ∨ n > 32 then bs else flip bs bit.toNat n.toNat m
theorem length_flipG (bs : List UInt8) (bit n : Int) (m : W32) : (flipG bs bit n m).length = bs.length := by
  unfold flipG; split
  · rfl
  · exact length_flip _ _ _ _
end Go.Proofs.YtcjobbcijbkjkaaGreat.V

/- Contracts of the document's answer, chapter 2. -/
set_option linter.unusedVariables false
set_option linter.unusedSimpArgs false
namespace Go.Proofs.YtcjobbcijbkjkaaGreat.V
open Go Go.Proofs Crc
end Go.Proofs.YtcjobbcijbkjkaaGreat.V

/- Contracts of the kit: Times, Str, Num, Row, Pair. -/
set_option linter.unusedVariables false
set_option linter.unusedSimpArgs false
namespace Go.Proofs.YtcjobbcijbkjkaaGreat.V
open Go Go.Proofs Go.RowKit

def timesL (bs : List UInt8) (n : Nat) : List UInt8 := (List.replicate n bs).flatten
theorem timesL_length (bs : List UInt8) (n : Nat) : (timesL bs n).length = n * bs.length := by simp [timesL]
theorem timesL_double (bs : List UInt8) (n : Nat) : timesL (bs ++ bs) n = timesL bs (2 * n) := by
  induction n with
  | zero => rfl
  | succ n ih =>
    have e : timesL (bs ++ bs) (n + 1) = (bs ++ bs) ++ timesL (bs ++ bs) n := by simp [timesL, List.replicate_succ]
    rw [e, ih, show 2 * (n + 1) = 2 * n + 1 + 1 by omega]
    simp [timesL, List.replicate_succ]
theorem times_calls (w : World) (s : ByteArray) {n : Int} (hn1 : n < 9223372036854775808) (hb : (B s).length * n.toNat ≤ 4000000000000000000) (hs : (B s).length ≤ 4000000000000000000) : Calls Tryz.prog 14 #[.string s, .int .i64 n] w (Ret fun v w' => v = .string ⟨(timesL (B s) n.toNat).toArray⟩ ∧ w' = w) := by
  apply calls14
  unfold S14
  refine loopW_i (fun y w' => w' = w ∧ (y.2.1 ≤ 0 → y.2.1 = n ∨ y.2.1 = 0) ∧ y.2.1 ≤ max n 0 ∧ B y.2.2.1 ++ timesL (B y.1) y.2.1.toNat = timesL (B s) n.toNat ∧ (B y.1).length * y.2.1.toNat ≤ 4000000000000000000 ∧ (0 < y.2.1 → (B y.1).length ≤ 4000000000000000000)) (fun y => y.2.1.toNat) ⟨rfl, fun _ => .inl rfl, by dsimp only; omega, by simp [B], hb, fun _ => hs⟩ ?_
  rintro ⟨t, m, out, _⟩ w1 ⟨hw, h0, h1, h2, h3, h4⟩
  subst hw
  dsimp only at h0 h1 h2 h3 h4 ⊢
  have hlen : (timesL (B s) n.toNat).length ≤ 4000000000000000000 := by rw [timesL_length, Nat.mul_comm]; exact hb
  have hl2 := congrArg List.length h2
  rw [List.length_append] at hl2
  have htsz := B_size t
  have hosz := B_size out
  by_cases hm : 0 < m
  · have ht := h4 hm
    have hmw : m < 9223372036854775808 := by omega
    have e2 : IntKind.wrap .i64 (Int.tdiv m 2) = m / 2 := by
      rw [Int.tdiv_eq_ediv_of_nonneg (by omega), wrap_i64 (by omega) (by omega)]
    have hmax : IntKind.i64.max = 9223372036854775807 := by decide
    have hdt : ∀ k : Nat, m.toNat = 2 * k + 1 → B out ++ B t ++ timesL (B t ++ B t) k = timesL (B s) n.toNat := fun k hk => by
      rw [timesL_double, ← h2, hk, List.append_assoc]
      congr 1
    have hde : ∀ k : Nat, m.toNat = 2 * k → B out ++ timesL (B t ++ B t) k = timesL (B s) n.toNat := fun k hk => by rw [timesL_double, ← h2, hk]
    have hmul : (B t).length ≤ (B t).length * m.toNat := Nat.le_mul_of_pos_right _ (by omega)
    refine splitW_t (decide_eq_true (by omega)) ?_
    refine splitW_i (fun hodd => ?_) (fun hev => ?_)
    · have hodd := beq_iff_eq.1 hodd
      have hmod : m % 2 = 1 := by rw [Int.tmod_eq_emod_of_nonneg (by omega)] at hodd; exact hodd
      have hk : m.toNat = 2 * (m / 2).toNat + 1 := by omega
      have hpre : (B out).length + (B t).length ≤ 4000000000000000000 := by
        rw [timesL_length] at hl2
        have : 1 * (B t).length ≤ m.toNat * (B t).length := Nat.mul_le_mul_right _ (by omega)
        omega
      refine guard_i (by rw [hmax]; omega) (guard_i (by rw [hmax]; omega) ?_)
      refine ⟨⟨rfl, fun hh => .inr (by rw [e2] at hh ⊢; omega), ?_, ?_, ?_, fun hp => ?_⟩, ?_⟩
      · rw [e2]; omega
      · rw [e2, B_append, B_append]
        exact hdt _ hk
      · rw [e2, B_append, List.length_append]
        have : ((B t).length + (B t).length) * (m / 2).toNat = (B t).length * (2 * (m / 2).toNat) := by rw [← Nat.two_mul, Nat.mul_assoc, Nat.mul_left_comm]
        rw [this]
        exact Nat.le_trans (Nat.mul_le_mul_left _ (by omega)) h3
      · rw [e2] at hp
        rw [B_append, List.length_append]
        have : (B t).length * 2 ≤ (B t).length * m.toNat := Nat.mul_le_mul_left _ (by omega)
        omega
      · rw [e2]; omega
    · have hev := beq_eq_false_iff_ne.1 hev
      have hmod : m % 2 = 0 := by rw [Int.tmod_eq_emod_of_nonneg (by omega)] at hev; omega
      have hk : m.toNat = 2 * (m / 2).toNat := by omega
      refine guard_i (by rw [hmax]; omega) ?_
      refine ⟨⟨rfl, fun hh => .inr (by rw [e2] at hh ⊢; omega), ?_, ?_, ?_, fun hp => ?_⟩, ?_⟩
      · rw [e2]; omega
      · rw [e2, B_append]
        exact hde _ hk
      · rw [e2, B_append, List.length_append]
        have : ((B t).length + (B t).length) * (m / 2).toNat = (B t).length * (2 * (m / 2).toNat) := by rw [← Nat.two_mul, Nat.mul_assoc, Nat.mul_left_comm]
        rw [this]
        exact Nat.le_trans (Nat.mul_le_mul_left _ (by omega)) h3
      · rw [B_append, List.length_append]
        have : (B t).length * 2 ≤ (B t).length * m.toNat := Nat.mul_le_mul_left _ (by omega)
        omega
      · rw [e2]; omega
  · refine splitW_f (decide_eq_false (by omega)) ⟨?_, rfl⟩
    rw [show m.toNat = 0 by omega] at h2
    congr 1
    apply B_inj
    show B out = timesL (B s) n.toNat
    rw [← h2]
    simp [timesL]
end Go.Proofs.YtcjobbcijbkjkaaGreat.V

/- Devices: plain, and in memory. -/
set_option linter.unusedVariables false
set_option linter.unusedSimpArgs false
namespace Go.Proofs.YtcjobbcijbkjkaaGreat.V
open Go Go.Proofs Go.RowKit Crc

/-! ### What a call may change -/
def Only (F : Nat → Prop) (w w' : World) : Prop := w'.os = w.os ∧ w'.tape = w.tape ∧ w'.output = w.output ∧ w.heap.size ≤ w'.heap.size ∧ ∀ k : Nat, k < w.heap.size → ¬ F k → w'.heap[k]? = w.heap[k]?
theorem Only.of_ext {F : Nat → Prop} {w w' : World} (h : Ext w w') : Only F w w' := ⟨h.os, h.tape, h.output, h.size, fun k hk _ => h.block k hk⟩
theorem Only.refl (F : Nat → Prop) (w : World) : Only F w w := Only.of_ext (Ext.refl w)
theorem Only.of_grown {F : Nat → Prop} {w w' : World} {row : Option Nat} (h : w.grownBy w' row) (hr : ∀ j, row = some j → F j ∨ w.heap.size ≤ j) : Only F w w' := by
  refine ⟨h.os, h.tape, h.output, h.size, fun k hk hF => h.block k hk (fun e => ?_)⟩
  rcases hr k e.symm with h1 | h1
  · exact hF h1
  · omega
theorem Only.trans {F G : Nat → Prop} {a b c : World} (h : Only F a b) (k : Only G b c) (hG : ∀ j, G j → F j ∨ a.heap.size ≤ j) : Only F a c := by
  obtain ⟨h1, h2, h3, h4, h5⟩ := h
  obtain ⟨k1, k2, k3, k4, k5⟩ := k
  refine ⟨k1.trans h1, k2.trans h2, k3.trans h3, Nat.le_trans h4 k4, fun j hj hF => ?_⟩
  rw [k5 j (by omega) (fun hg => by rcases hG j hg with x | x; exact hF x; omega), h5 j hj hF]
theorem Only.ext {F : Nat → Prop} {a w w' : World} (h : Ext a w) (k : Only F w w') (hF : ∀ j, F j → a.heap.size ≤ j) : Ext a w' := by
  obtain ⟨k1, k2, k3, k4, k5⟩ := k
  refine ⟨k1.trans h.os, k2.trans h.tape, k3.trans h.output, Nat.le_trans h.size k4, fun j hj => ?_⟩
  rw [k5 j (by have := h.size; omega) (fun hg => by have := hF j hg; omega)]
  exact h.block j hj
theorem Blk.only {F : Nat → Prop} {w w' : World} {b : Nat} {cs : List Value} {t : TypeId} (h : Blk w b cs t) (k : Only F w w') (hb : ¬ F b) : Blk w' b cs t := (k.2.2.2.2 b h.lt hb).trans h
theorem Owni.only {α : Type} {E : Enc α} {e : TypeId} {F : Nat → Prop} {w w' : World} {B : Nat} {A : Option Addr} {n c : Nat} {xs : List α} (h : Owni E e w B A n c xs) (k : Only F w w') (hr : ∀ j, orow A = some j → ¬ F j) : Owni E e w' B A n c xs := by
  refine ⟨h.1, ?_⟩
  rcases h.2 with hn | ⟨g, cap, cur, hv, hb, hgg, rest⟩
  · exact .inl hn
  · refine .inr ⟨g, cap, cur, hv, hb, ?_, rest⟩
    have ha : orow A = some g := by
      injection hv with hv
      rw [hv]
      rfl
    rw [k.2.2.2.2 g (Array.getElem?_eq_some_iff.1 hgg).1 (hr g ha)]
    exact hgg
/-! ### Plain -/
structure Dev where
  size : Int
  blocks : Int
  dur : List ByteArray
  pen : List (Int × ByteArray)
  ops : Int
  fuse : Int
def writeE : Enc (Int × ByteArray) where
  k := 2
  f x := [.int .i64 x.1, .string x.2]
  len _ := rfl
  one _ := by
    intro v hv
    simp only [List.mem_cons, List.not_mem_nil, or_false] at hv
    rcases hv with rfl | rfl <;> rfl
  pos := by decide
structure Dev.Ok (d : Dev) : Prop where
  geo : geoOK d.size d.blocks = true
  len : (d.dur.length : Int) = d.blocks
  each : ∀ s ∈ d.dur, (s.size : Int) = d.size
  pend : ∀ p ∈ d.pen, 0 ≤ p.1 ∧ p.1 < d.blocks ∧ (p.2.size : Int) = d.size
  fuse : -1 ≤ d.fuse ∧ d.fuse < 9223372036854775808
def Dev.there (d : Dev) (k : Int) : Bool := decide (0 ≤ k ∧ k < d.blocks)
def Dev.burnt (d : Dev) : Dev := { d with fuse := max (-1) (d.fuse - 1), ops := IntKind.wrap .i64 (d.ops + 1) }
def Dev.write (d : Dev) (k : Int) (s : ByteArray) : Dev × Int :=
  if ¬ (0 ≤ k ∧ k < d.blocks) ∨ (s.size : Int) ≠ d.size then (d, 2)
  else if d.fuse = 0 then (d, 8)
  else ({ d.burnt with pen := d.pen ++ [(k, s)] }, 0)
def put (l : List ByteArray) (p : Int × ByteArray) : List ByteArray := l.set p.1.toNat p.2
def Dev.flush (d : Dev) : Dev × Int := if d.fuse = 0 then (d, 8) else ({ d.burnt with dur := d.pen.foldl put d.dur, pen := [] }, 0)
def Dev.read (d : Dev) (k : Int) : ByteArray × Int :=
  if ¬ (0 ≤ k ∧ k < d.blocks) then (ByteArray.empty, 2)
  else ((d.pen.foldl put d.dur).getD k.toNat ByteArray.empty, 0)
def Dev.image (d : Dev) : List UInt8 := d.dur.flatMap B
/-! ### In memory -/
/-- A device's box and its two rows; F holds of these blocks alone. -/
structure DevAt (w : World) (b : Nat) (d : Dev) (F : Nat → Prop) : Prop where
  mem : ∃ (Ad Ap : Option Addr) (nd cd np cp : Nat) (t : TypeId), Blk w b [.int .i64 d.size, .int .i64 d.blocks, .slice Ad nd cd, .slice Ap np cp, .int .i64 d.ops, .int .i64 d.fuse] t
    ∧ Owni strE 9 w 0 Ad nd cd d.dur ∧ Owni writeE 149 w 0 Ap np cp d.pen ∧ (∀ k, F k ↔ k = b ∨ orow Ad = some k ∨ orow Ap = some k) ∧ orow Ad ≠ some b ∧ orow Ap ≠ some b ∧ (∀ j, orow Ad = some j → orow Ap ≠ some j)
  ok : d.Ok
theorem DevAt.lt {w : World} {b : Nat} {d : Dev} {F : Nat → Prop} (h : DevAt w b d F) : ∀ k, F k → k < w.heap.size := by
  obtain ⟨Ad, Ap, nd, cd, np, cp, t, hb, hd, hp, hF, _⟩ := h.mem
  intro k hk
  rcases (hF k).1 hk with rfl | h | h
  · exact hb.lt
  · exact hd.row_lt k h
  · exact hp.row_lt k h
theorem DevAt.box {w : World} {b : Nat} {d : Dev} {F : Nat → Prop} (h : DevAt w b d F) : F b := by
  obtain ⟨Ad, Ap, nd, cd, np, cp, t, hb, hd, hp, hF, _⟩ := h.mem
  exact (hF b).2 (.inl rfl)
/-- What does not touch a device leaves it as it was. -/
theorem DevAt.apart {w w' : World} {b : Nat} {d : Dev} {F G : Nat → Prop} (h : DevAt w b d F) (k : Only G w w') (hFG : ∀ j, F j → ¬ G j) : DevAt w' b d F := by
  refine ⟨?_, h.ok⟩
  obtain ⟨Ad, Ap, nd, cd, np, cp, t, hb, hd, hp, hF, h1, h2, h3⟩ := h.mem
  exact ⟨Ad, Ap, nd, cd, np, cp, t, hb.only k (hFG b ((hF b).2 (.inl rfl))), hd.only k (fun j hj => hFG j ((hF j).2 (.inr (.inl hj)))), hp.only k (fun j hj => hFG j ((hF j).2 (.inr (.inr hj)))), hF, h1, h2, h3⟩
end Go.Proofs.YtcjobbcijbkjkaaGreat.V

/- Contracts of the library at this dump: written by the kit's own tools (lay-shelf, lay-plain), pruned to what is used. -/
namespace Go.Proofs
open Go.Shelf
def Tryz.lays169_ren : Go.Shelf.Ren := ⟨fun | 169 => 35 | n => n, fun | 70 => 68 | 9 => 9 | 0 => 0 | 72 => 70 | 37 => 58 | 127 => 125 | 3 => 3 | 5 => 5 | n => n, fun | n => n⟩
theorem Tryz.lays169 : Go.Proofs.Lays.n169 Tryz.prog Tryz.lays169_ren := {
  mixed := by kernel_rfl
  f169 := Tryz.func35.trans (congrArg some (by kernel_rfl))
  t0 := Tryz.underlying0
  a0 := Tryz.isAgg0
  z0 := Tryz.sizeOf0
  v0 := Tryz.zeroValue0
  t3 := Tryz.underlying3
  a3 := Tryz.isAgg3
  z3 := Tryz.sizeOf3
  v3 := Tryz.zeroValue3
  t9 := Tryz.underlying9
  a9 := Tryz.isAgg9
  z9 := Tryz.sizeOf9
  v9 := Tryz.zeroValue9
  t37 := Tryz.underlying58
  a37 := Tryz.isAgg58
  z37 := Tryz.sizeOf58
  v37 := Tryz.zeroValue58
  t70 := Tryz.underlying68
  a70 := Tryz.isAgg68
  z70 := Tryz.sizeOf68
  v70 := Tryz.zeroValue68
  t72 := Tryz.underlying70
  a72 := Tryz.isAgg70
  z72 := Tryz.sizeOf70
  v72 := Tryz.zeroValue70
  t127 := Tryz.underlying125
  a127 := Tryz.isAgg125
  z127 := Tryz.sizeOf125
  v127 := Tryz.zeroValue125 }
theorem Tryz.Builder_Extra_169 : Builder.Extra Tryz.prog Tryz.lays169_ren := {
  sizeBuilder := by kernel_rfl
  liesBuilder := by kernel_rfl
  t5 := Tryz.underlying5
  a5 := Tryz.isAgg5
  z5 := Tryz.sizeOf5
  v5 := Tryz.zeroValue5
  infoByte := by kernel_rfl
  cellsByte := by kernel_rfl
  sizeByte := by kernel_rfl
  neB5 := by decide }
open Go.RowKit in
theorem Tryz.Builder_String_any_k (B b : Nat) (l : List UInt8) (w : World) (h : Lib.IsBuilderF 70 5 B b (Lib.byteCells l) w) (hBw : B ≤ w.heap.size) :
    Calls Tryz.prog 35 #[.pointer (some ⟨b, 0, none⟩)] w fun e w' => e = .returned (.string ⟨l.toArray⟩) ∧ (Lib.IsBuilderF 70 5 B b (Lib.byteCells l) w' ∧ Below B w w' ∧ Lib.OthersKept 5 (some b) w w') := Any.Builder_String_any_k Tryz.lays169 Tryz.Builder_Extra_169 B b l w h hBw
def Tryz.lays212_ren : Go.Shelf.Ren := ⟨fun | 212 => 92 | 263 => 111 | 264 => 112 | n => n, fun | 46 => 158 | 51 => 30 | 146 => 184 | 53 => 67 | 148 => 186 | n => n, fun | n => n⟩
theorem Tryz.lays212 : Go.Proofs.Lays.n212 Tryz.prog Tryz.lays212_ren := {
  mixed := by kernel_rfl
  f212 := Tryz.func92.trans (congrArg some (by kernel_rfl))
  f263 := Tryz.func111.trans (congrArg some (by kernel_rfl))
  f264 := Tryz.func112.trans (congrArg some (by kernel_rfl))
  t46 := Tryz.underlying158
  a46 := Tryz.isAgg158
  z46 := Tryz.sizeOf158
  v46 := Tryz.zeroValue158
  t51 := Tryz.underlying30
  a51 := Tryz.isAgg30
  z51 := Tryz.sizeOf30
  v51 := Tryz.zeroValue30
  t53 := Tryz.underlying67
  a53 := Tryz.isAgg67
  z53 := Tryz.sizeOf67
  v53 := Tryz.zeroValue67
  t146 := Tryz.underlying184
  a146 := Tryz.isAgg184
  z146 := Tryz.sizeOf184
  v146 := Tryz.zeroValue184
  t148 := Tryz.underlying186
  a148 := Tryz.isAgg186
  z148 := Tryz.sizeOf186
  v148 := Tryz.zeroValue186 }
open Go.RowKit Go.Lib in
theorem Tryz.bits_Mul (x y : Nat) (hx : x < 18446744073709551616) (hy : y < 18446744073709551616) (w : World) :
    Calls Tryz.prog 92 #[.int .u64 x, .int .u64 y] w fun e w' => e = .returned (.tuple #[.int .u64 ((x * y / 18446744073709551616 : Nat) : Int), .int .u64 ((x * y % 18446744073709551616 : Nat) : Int)]) ∧ w' = w := Any.bits_Mul Tryz.lays212 x y hx hy w
def Tryz.lays105_ren : Go.Shelf.Ren := ⟨fun | 105 => 64 | 212 => 92 | 99 => 93 | 165 => 94 | 166 => 34 | 170 => 95 | 169 => 35 | 263 => 111 | 264 => 112 | 206 => 113 | 240 => 71 | 241 => 114 | 276 => 98 | 277 => 122 | n => n, fun | 9 => 9 | 3 => 3 | 4 => 4 | 20 => 20 | 0 => 0 | 46 => 158 | 109 => 159 | 5 => 5 | 72 => 70 | 76 => 76 | 51 => 30 | 146 => 184 | 53 => 67 | 148 => 186 | 70 => 68 | 37 => 58 | 75 => 75 | 127 => 125 | 164 => 162 | 80 => 78 | n => n, fun | n => n⟩
theorem Tryz.lays105 : Go.Proofs.Lays.n105 Tryz.prog Tryz.lays105_ren := {
  mixed := by kernel_rfl
  f99 := Tryz.func93.trans (congrArg some (by kernel_rfl))
  f105 := Tryz.func64.trans (congrArg some (by kernel_rfl))
  f165 := Tryz.func94.trans (congrArg some (by kernel_rfl))
  f166 := Tryz.func34.trans (congrArg some (by kernel_rfl))
  f169 := Tryz.func35.trans (congrArg some (by kernel_rfl))
  f170 := Tryz.func95.trans (congrArg some (by kernel_rfl))
  f206 := Tryz.func113.trans (congrArg some (by kernel_rfl))
  f212 := Tryz.func92.trans (congrArg some (by kernel_rfl))
  f240 := Tryz.func71.trans (congrArg some (by kernel_rfl))
  f241 := Tryz.func114.trans (congrArg some (by kernel_rfl))
  f263 := Tryz.func111.trans (congrArg some (by kernel_rfl))
  f264 := Tryz.func112.trans (congrArg some (by kernel_rfl))
  f276 := Tryz.func98.trans (congrArg some (by kernel_rfl))
  f277 := Tryz.func122.trans (congrArg some (by kernel_rfl))
  t0 := Tryz.underlying0
  a0 := Tryz.isAgg0
  z0 := Tryz.sizeOf0
  v0 := Tryz.zeroValue0
  t3 := Tryz.underlying3
  a3 := Tryz.isAgg3
  z3 := Tryz.sizeOf3
  v3 := Tryz.zeroValue3
  t4 := Tryz.underlying4
  a4 := Tryz.isAgg4
  z4 := Tryz.sizeOf4
  v4 := Tryz.zeroValue4
  t5 := Tryz.underlying5
  a5 := Tryz.isAgg5
  z5 := Tryz.sizeOf5
  v5 := Tryz.zeroValue5
  t9 := Tryz.underlying9
  a9 := Tryz.isAgg9
  z9 := Tryz.sizeOf9
  v9 := Tryz.zeroValue9
  t20 := Tryz.underlying20
  a20 := Tryz.isAgg20
  z20 := Tryz.sizeOf20
  v20 := Tryz.zeroValue20
  t37 := Tryz.underlying58
  a37 := Tryz.isAgg58
  z37 := Tryz.sizeOf58
  v37 := Tryz.zeroValue58
  t46 := Tryz.underlying158
  a46 := Tryz.isAgg158
  z46 := Tryz.sizeOf158
  v46 := Tryz.zeroValue158
  t51 := Tryz.underlying30
  a51 := Tryz.isAgg30
  z51 := Tryz.sizeOf30
  v51 := Tryz.zeroValue30
  t53 := Tryz.underlying67
  a53 := Tryz.isAgg67
  z53 := Tryz.sizeOf67
  v53 := Tryz.zeroValue67
  t70 := Tryz.underlying68
  a70 := Tryz.isAgg68
  z70 := Tryz.sizeOf68
  v70 := Tryz.zeroValue68
  t72 := Tryz.underlying70
  a72 := Tryz.isAgg70
  z72 := Tryz.sizeOf70
  v72 := Tryz.zeroValue70
  t75 := Tryz.underlying75
  a75 := Tryz.isAgg75
  z75 := Tryz.sizeOf75
  v75 := Tryz.zeroValue75
  t76 := Tryz.underlying76
  a76 := Tryz.isAgg76
  z76 := Tryz.sizeOf76
  v76 := Tryz.zeroValue76
  t109 := Tryz.underlying159
  a109 := Tryz.isAgg159
  z109 := Tryz.sizeOf159
  v109 := Tryz.zeroValue159
  t127 := Tryz.underlying125
  a127 := Tryz.isAgg125
  z127 := Tryz.sizeOf125
  v127 := Tryz.zeroValue125
  t146 := Tryz.underlying184
  a146 := Tryz.isAgg184
  z146 := Tryz.sizeOf184
  v146 := Tryz.zeroValue184
  t148 := Tryz.underlying186
  a148 := Tryz.isAgg186
  z148 := Tryz.sizeOf186
  v148 := Tryz.zeroValue186
  t164 := Tryz.underlying162
  a164 := Tryz.isAgg162
  z164 := Tryz.sizeOf162
  v164 := Tryz.zeroValue162 }
theorem Tryz.Builder_Extra_105 : Builder.Extra Tryz.prog Tryz.lays105_ren := {
  sizeBuilder := by kernel_rfl
  liesBuilder := by kernel_rfl
  t5 := Tryz.underlying5
  a5 := Tryz.isAgg5
  z5 := Tryz.sizeOf5
  v5 := Tryz.zeroValue5
  infoByte := by kernel_rfl
  cellsByte := by kernel_rfl
  sizeByte := by kernel_rfl
  neB5 := by decide }
open Go.RowKit Go.Lib in
theorem Tryz.strings_Repeat (s : ByteArray) (c : Nat) (w : World) (hc : c ≤ 9223372036854775807) (hlen : s.size * c ≤ 140737488355328) :
    Calls Tryz.prog 64 #[.string s, .int .i64 c] w fun e w' => e = .returned (.string ⟨(Lib.repeatL s.data.toList c).toArray⟩) ∧ Below w.heap.size w w' := Any.strings_Repeat Tryz.lays105 Tryz.Builder_Extra_105 s c w hc hlen
def Tryz.lays166_ren : Go.Shelf.Ren := ⟨fun | 166 => 34 | 240 => 71 | 276 => 98 | n => n, fun | 0 => 0 | 3 => 3 | 4 => 4 | 5 => 5 | 9 => 9 | 20 => 20 | 37 => 58 | 70 => 68 | 72 => 70 | 75 => 75 | 80 => 78 | 164 => 162 | n => n, fun | n => n⟩
theorem Tryz.lays166 : Go.Proofs.Lays.n166 Tryz.prog Tryz.lays166_ren := {
  mixed := by kernel_rfl
  f166 := Tryz.func34.trans (congrArg some (by kernel_rfl))
  f240 := Tryz.func71.trans (congrArg some (by kernel_rfl))
  f276 := Tryz.func98.trans (congrArg some (by kernel_rfl))
  t0 := by kernel_rfl
  a0 := fun w => by kernel_rfl
  z0 := fun w => by kernel_rfl
  v0 := fun w => by kernel_rfl
  t3 := by kernel_rfl
  a3 := fun w => by kernel_rfl
  z3 := fun w => by kernel_rfl
  v3 := fun w => by kernel_rfl
  t4 := by kernel_rfl
  a4 := fun w => by kernel_rfl
  z4 := fun w => by kernel_rfl
  v4 := fun w => by kernel_rfl
  t9 := by kernel_rfl
  a9 := fun w => by kernel_rfl
  z9 := fun w => by kernel_rfl
  v9 := fun w => by kernel_rfl
  t20 := by kernel_rfl
  a20 := fun w => by kernel_rfl
  z20 := fun w => by kernel_rfl
  v20 := fun w => by kernel_rfl
  t37 := by kernel_rfl
  a37 := fun w => by kernel_rfl
  z37 := fun w => by kernel_rfl
  v37 := fun w => by kernel_rfl
  t70 := by kernel_rfl
  a70 := fun w => by kernel_rfl
  z70 := fun w => by kernel_rfl
  v70 := fun w => by kernel_rfl
  t72 := by kernel_rfl
  a72 := fun w => by kernel_rfl
  z72 := fun w => by kernel_rfl
  v72 := fun w => by kernel_rfl
  t75 := by kernel_rfl
  a75 := fun w => by kernel_rfl
  z75 := fun w => by kernel_rfl
  v75 := fun w => by kernel_rfl
  t164 := by kernel_rfl
  a164 := fun w => by kernel_rfl
  z164 := fun w => by kernel_rfl
  v164 := fun w => by kernel_rfl }
theorem Tryz.Builder_X72_166 : Builder.X72 Tryz.prog Tryz.lays166_ren where
  sizeBuilder := by kernel_rfl
  liesBuilder := by kernel_rfl
theorem Tryz.Builder_Extra_166b : Builder.Extra Tryz.prog Tryz.lays166_ren where
  toX72 := Tryz.Builder_X72_166
  t5 := by kernel_rfl
  a5 := fun w => by kernel_rfl
  z5 := fun w => by kernel_rfl
  v5 := fun w => by kernel_rfl
  infoByte := by kernel_rfl
  cellsByte := by kernel_rfl
  sizeByte := by kernel_rfl
  neB5 := by decide
open Go.RowKit in
theorem Tryz.Builder_WriteString_k (B b : Nat) (bs : List Value) (s : ByteArray) (w : World) (h : Lib.IsBuilderF 70 5 B b bs w) (hlen : bs.length + s.size ≤ 140737488355328) (hBw : B ≤ w.heap.size) :
    Calls Tryz.prog 34 #[.pointer (some ⟨b, 0, none⟩), .string s] w fun e w' => e = .returned (.tuple #[.int .i64 s.size, .nilIface]) ∧ (Lib.BuilderAtF 70 5 B b (.pointer (some ⟨b, 0, none⟩)) (bs ++ Lib.strCells s) w' ∧ Below B w w' ∧ Lib.OthersKept 5 (some b) w w') := Any.Builder_WriteString_k Tryz.lays166 Tryz.Builder_Extra_166b B b bs s w h hlen hBw
end Go.Proofs

/- Contracts of octet.Reader. -/
set_option linter.unusedVariables false
set_option linter.unusedSimpArgs false
namespace Go.Proofs.YtcjobbcijbkjkaaGreat.V
open Go Go.Proofs Go.RowKit

theorem set_grown (w : World) (b o : Nat) (v : Value) : w.grownBy (w.setCell ⟨b, o, none⟩ v) (some b) := by
  refine ⟨rfl, rfl, rfl, by simp, fun k hk hne => Below.heap_setCell _ _ _ _ ?_⟩
  intro e
  exact hne (by rw [e])
/-- A reader, and the bytes that it has left. -/
def Rdr (w : World) (lo b : Nat) (bs : List UInt8) : Prop := ∃ (A : Option Addr) (n c : Nat) (t : TypeId), Blk w b [.slice A n c] t ∧ Sl w A n (bV bs) ∧ n ≤ c ∧ (∀ a, A = some a → lo ≤ a.block ∧ a.block < b) ∧ lo ≤ b
theorem Rdr.lt {w : World} {lo b : Nat} {bs : List UInt8} (h : Rdr w lo b bs) : b < w.heap.size := by
  obtain ⟨A, n, c, t, hb, _⟩ := h
  exact hb.lt
theorem Rdr.ext {w w' : World} {lo b : Nat} {bs : List UInt8} (h : Rdr w lo b bs) (he : Ext w w') : Rdr w' lo b bs := by
  obtain ⟨A, n, c, t, hb, hs, hc, ha, hlo⟩ := h
  exact ⟨A, n, c, t, hb.ext he, hs.ext he, hc, ha, hlo⟩
theorem Rdr.grown {w w' : World} {lo b : Nat} {bs : List UInt8} {row : Option Nat} (h : Rdr w lo b bs) (hg : w.grownBy w' row) (hr : ∀ j, row = some j → j < lo ∨ b < j) : Rdr w' lo b bs := by
  obtain ⟨A, n, c, t, hb, hs, hc, ha, hlo⟩ := h
  refine ⟨A, n, c, t, hb.grown hg ?_, hs.grown hg ?_, hc, ha, hlo⟩
  · intro e
    have := hr b e.symm
    omega
  · intro a e e2
    have := hr a.block e2.symm
    have := ha a e
    omega
/-- A number read. -/
def rd (bs : List UInt8) (k : Nat) : Nat × Int × List UInt8 := if bs.length < k then (0, 7, bs) else (lev (bs.take k), 0, bs.drop k)
theorem onew_calls {w : World} {A : Option Addr} {n c : Nat} {bs : List UInt8} (h : Sl w A n (bV bs)) (hn : n ≤ 140737488355328) :
    Calls Tryz.prog 102 #[.slice A n c] w (Ret fun v w' => ∃ b, v = .pointer (some ⟨b, 0, none⟩) ∧ w.heap.size ≤ b ∧ Rdr w' w.heap.size b bs ∧ Ext w w') := by
  apply calls102
  unfold S102
  refine callW_of (clone_calls h hn) ?_
  rintro _ w1 ⟨⟨A1, n1, c1⟩, rfl, ho1, he1⟩
  refine ⟨(A1, n1, c1), rfl, ?_⟩
  refine new_i fun r2 w2 hb2 he2 hr2 _ => ?_
  have hsz := he1.size
  refine ⟨r2, rfl, by omega, ⟨A1, n1, c1, _, hb2, (ho1.ext he2).sl, ho1.le.1, fun a ha => ?_, by omega⟩, he1.trans he2⟩
  have hge := ho1.row a.block (by rw [orow_eq]; dsimp only; subst ha; rfl)
  have hlt := (own_from ho1 (k := a.block) (by rw [orow_eq]; dsimp only; subst ha; rfl)).2
  omega
theorem otake_calls {w : World} {lo b k : Nat} {bs : List UInt8} (h : Rdr w lo b bs) (hk : k ≤ 1000000) :
    Calls Tryz.prog 119 #[.pointer (some ⟨b, 0, none⟩), .int .i64 (k : Int)] w (Ret fun v w' => ∃ A n c, v = .tuple #[.slice A n c, .int .i64 (rd bs k).2.1] ∧ Sl w' A n (bV (if bs.length < k then [] else bs.take k)) ∧ Rdr w' lo b (rd bs k).2.2 ∧ w.grownBy w' (some b)) := by
  obtain ⟨A, n, c, t, hb, hs, hc, ha, hlo⟩ := h
  have hl := hs.blen
  apply calls119
  unfold S119 rd
  refine ptr_i (box0 (A, n, c) hb (by rfl) ?_)
  refine splitW_i (fun hq => ?_) (fun hq => ?_)
  · have hq : (n : Int) < (k : Int) := of_decide_eq_true hq
    rw [if_pos (by omega), if_pos (by omega)]
    exact ⟨none, 0, 0, rfl, Sl.nil w none, ⟨A, n, c, t, hb, hs, hc, ha, hlo⟩, grownBy_refl _ _⟩
  have hq : ¬ (n : Int) < (k : Int) := of_decide_eq_false hq
  rw [if_neg (by omega), if_neg (by omega)]
  refine ptr_i (box0 (A, n, c) hb (by rfl) (guard_i ⟨by omega, by omega, by dsimp only; omega⟩ ?_))
  refine ptr_i (box0 (A, n, c) hb (by rfl) (guard_i ⟨by omega, by dsimp only; omega⟩ ?_))
  dsimp only
  rw [Int.toNat_natCast]
  refine ptr_i (stW_blk hb (by simp) ?_)
  have hg := set_grown w b 0 (.slice (cutAddr A k c 1) (n - k) (c - k))
  have hb' := hb.set 0 (.slice (cutAddr A k c 1) (n - k) (c - k))
  have keep : ∀ {A' : Option Addr} {n' : Nat} {bs' : List UInt8}, Sl w A' n' (bV bs') → (∀ a, A' = some a → lo ≤ a.block ∧ a.block < b) → Sl (w.setCell ⟨b, 0, none⟩ (.slice (cutAddr A k c 1) (n - k) (c - k))) A' n' (bV bs') := fun hs ha => hs.grown hg (fun a e e2 => by injection e2 with e2; have := ha a e; omega)
  have cut : ∀ (l m : Nat) (a : Addr), cutAddr A l m 1 = some a → lo ≤ a.block ∧ a.block < b := by
    intro l m a e
    unfold cutAddr at e
    cases A with
    | none => revert e; split <;> simp
    | some a0 =>
      have := ha a0 rfl
      revert e
      split
      · intro e; first | (injection e with e; subst e; exact this) | cases e
      · intro e
        simp only [Option.map_some, Option.some.injEq] at e
        subst e
        unfold Addr.add
        split <;> exact this
  refine ⟨cutAddr A 0 k 1, k, k, rfl, ?_, ⟨cutAddr A k c 1, n - k, c - k, t, hb', ?_, by omega, cut k c, hlo⟩, hg⟩
  · refine keep ?_ (cut 0 k)
    have := hs.cut0 (k := k) (m := k) (by omega) (by omega)
    rw [bV_take] at this
    exact this
  · refine keep ?_ (cut k c)
    have := hs.cut (l := k) (k := n - k) (m := c) (by omega) (by omega)
    rw [bV_drop, bV_take, List.take_of_length_le (by rw [List.length_drop]; omega)] at this
    exact this
theorem number_calls {w : World} {lo b k : Nat} {bs : List UInt8} (h : Rdr w lo b bs) (hk1 : 1 ≤ k) (hk : k ≤ 8) :
    Calls Tryz.prog 103 #[.pointer (some ⟨b, 0, none⟩), .int .i64 (k : Int)] w (Ret fun v w' => v = .tuple #[.int .u64 ((rd bs k).1 : Int), .int .i64 (rd bs k).2.1] ∧ Rdr w' lo b (rd bs k).2.2 ∧ w.grownBy w' (some b)) := by
  apply calls103
  unfold S103
  refine splitW_f (by rfl) (splitW_f (decide_eq_false (by omega)) (splitW_f (decide_eq_false (by omega)) ?_))
  refine callW_of (otake_calls h (by omega)) ?_
  rintro _ w1 ⟨A, n, c, rfl, hs, hr, hg⟩
  refine ⟨((A, n, c), (rd bs k).2.1, ()), rfl, ?_⟩
  have hl := hs.blen
  have hn : n ≤ 8 := by
    split at hl
    · simp only [List.length_nil] at hl; omega
    · rw [List.length_take] at hl; omega
  refine callW_of (octof_calls hs hn) ?_
  rintro _ w2 ⟨rfl, he2⟩
  refine ⟨_, rfl, ⟨?_, hr.ext he2, grownBy_tr hg (grownBy_of_ext he2 none) (fun j hj => by cases hj)⟩⟩
  dsimp only
  unfold rd
  split <;> rfl
end Go.Proofs.YtcjobbcijbkjkaaGreat.V

/- Contracts of the package device. -/
set_option linter.unusedVariables false
set_option linter.unusedSimpArgs false
namespace Go.Proofs.YtcjobbcijbkjkaaGreat.V
open Go Go.Proofs Go.RowKit Crc

/-- What a method leaves behind. -/
def Step (w : World) (b : Nat) (F : Nat → Prop) (d' : Dev) (w' : World) : Prop := ∃ F' : Nat → Prop, DevAt w' b d' F' ∧ (∀ k, F' k → F k ∨ w.heap.size ≤ k) ∧ Only F w w'
theorem there_calls {w : World} {b : Nat} {d : Dev} {F : Nat → Prop} (h : DevAt w b d F) (k : Int) :
    Calls Tryz.prog 85 #[.pointer (some ⟨b, 0, none⟩), .int .i64 k] w (Ret fun v w' => v = .bool (d.there k) ∧ w' = w) := by
  obtain ⟨Ad, Ap, nd, cd, np, cp, t, hb, hd, hp, hF, h1, h2, h3⟩ := h.mem
  apply calls85
  unfold S85 Dev.there
  refine splitW_i (fun hz => ?_) (fun hz => ?_)
  · have hz := of_decide_eq_true hz
    refine ptr_i (boxF 1 d.blocks hb (by rfl) ⟨?_, rfl⟩)
    congr 1
    exact decide_eq_decide.2 (by omega)
  · have hz := of_decide_eq_false hz
    refine ⟨?_, rfl⟩
    congr 1
    exact (decide_eq_false (by omega)).symm
theorem DevAt.put {w : World} {b o : Nat} {d d' : Dev} {F : Nat → Prop} {v : Value} (h : DevAt w b d F) (ho : ∀ Ad nd cd Ap np cp, ([.int .i64 d.size, .int .i64 d.blocks, .slice Ad nd cd, .slice Ap np cp, .int .i64 d.ops, .int .i64 d.fuse] : List Value).set o v = [.int .i64 d'.size, .int .i64 d'.blocks, .slice Ad nd cd, .slice Ap np cp, .int .i64 d'.ops, .int .i64 d'.fuse])
    (hd' : d'.dur = d.dur) (hp' : d'.pen = d.pen) (hok : d'.Ok) : DevAt (w.setCell ⟨b, o, none⟩ v) b d' F := by
  obtain ⟨Ad, Ap, nd, cd, np, cp, t, hb, hd, hp, hF, h1, h2, h3⟩ := h.mem
  have hg := set_grown w b o v
  refine ⟨⟨Ad, Ap, nd, cd, np, cp, t, ?_, ?_, ?_, hF, h1, h2, h3⟩, hok⟩
  · rw [← ho Ad nd cd Ap np cp]; exact hb.set o v
  · rw [hd']; exact hd.grown hg (fun j hj e => by injection hj with hj; subst hj; exact h1 e)
  · rw [hp']; exact hp.grown hg (fun j hj e => by injection hj with hj; subst hj; exact h2 e)
theorem Dev.Ok.burnt {d : Dev} (h : d.Ok) : d.burnt.Ok := by
  refine ⟨h.geo, h.len, h.each, h.pend, ?_⟩
  have := h.fuse
  show -1 ≤ max (-1) (d.fuse - 1) ∧ max (-1) (d.fuse - 1) < 9223372036854775808
  omega
theorem done_calls {w : World} {b : Nat} {d : Dev} {F : Nat → Prop} (h : DevAt w b d F) :
    Calls Tryz.prog 97 #[.pointer (some ⟨b, 0, none⟩)] w (Ret fun v w' => (d.fuse = 0 ∧ v = .bool false ∧ w' = w) ∨ (d.fuse ≠ 0 ∧ v = .bool true ∧ DevAt w' b d.burnt F ∧ w.grownBy w' (some b))) := by
  obtain ⟨Ad, Ap, nd, cd, np, cp, t, hb, hd, hp, hF, h1, h2, h3⟩ := h.mem
  have hf := h.ok.fuse
  apply calls97
  unfold S97
  refine ptr_i (boxF 5 d.fuse hb (by rfl) (splitW_i (fun hz => .inl ⟨beq_iff_eq.1 hz, rfl, rfl⟩) (fun hz => ?_)))
  have hz := beq_eq_false_iff_ne.1 hz
  have ef : (if IntKind.wrap .i64 (d.fuse - 1) > -1 then IntKind.wrap .i64 (d.fuse - 1) else -1) = max (-1) (d.fuse - 1) := by
    rw [wrap_i64 (by omega) (by omega)]
    split <;> omega
  refine ptr_i (boxF 5 d.fuse hb (by rfl) ?_)
  rw [ef]
  refine ptr_i ?_
  rw [add_mk]
  refine stW_blk hb (by show 0 + 5 < 6; omega) ?_
  have hg1 := set_grown w b (0 + 5) (.int .i64 (max (-1) (d.fuse - 1)))
  have hD := h.put (d' := { d with fuse := max (-1) (d.fuse - 1) }) (o := 0 + 5) (v := .int .i64 (max (-1) (d.fuse - 1))) (fun _ _ _ _ _ _ => rfl) rfl rfl ⟨h.ok.geo, h.ok.len, h.ok.each, h.ok.pend, by dsimp only; omega⟩
  have hb1 := hb.set (0 + 5) (.int .i64 (max (-1) (d.fuse - 1)))
  generalize w.setCell ⟨b, 0 + 5, none⟩ (.int .i64 (max (-1) (d.fuse - 1))) = w1 at hg1 hD hb1 ⊢
  refine ptr_i (boxF 4 d.ops hb1 (by rfl) (ptr_i ?_))
  rw [add_mk]
  refine stW_blk hb1 (by show 0 + 4 < 6; omega) ?_
  have hg2 := set_grown w1 b (0 + 4) (.int .i64 (IntKind.wrap .i64 (d.ops + 1)))
  have hD2 := hD.put (d' := d.burnt) (o := 0 + 4) (v := .int .i64 (IntKind.wrap .i64 (d.ops + 1))) (fun _ _ _ _ _ _ => rfl) rfl rfl h.ok.burnt
  exact .inr ⟨hz, rfl, hD2, grownBy_tr hg1 hg2 (fun j hj => .inl hj)⟩
theorem elem_write : ElemK Tryz.prog 116 149 (.agg #[.int .i64 0, .string ByteArray.empty]) 2 24 := ⟨by kernel_rfl, by kernel_rfl, by kernel_rfl⟩
theorem write_calls {w : World} {b : Nat} {d : Dev} {F : Nat → Prop} (h : DevAt w b d F) (k : Int) (s : ByteArray) (hn : d.pen.length ≤ 1000000) :
    Calls Tryz.prog 69 #[.pointer (some ⟨b, 0, none⟩), .int .i64 k, .string s] w (Ret fun v w' => v = .int .i64 (d.write k s).2 ∧ Step w b F (d.write k s).1 w') := by
  have stay : ∀ {w' : World}, w' = w → Step w b F d w' := fun e => by subst e; exact ⟨F, h, fun k hk => .inl hk, Only.refl F _⟩
  apply calls69
  unfold S69 Dev.write
  refine splitW_f (by rfl) ?_
  refine callW_of (there_calls h k) ?_
  rintro _ w1 ⟨rfl, hw⟩
  refine ⟨_, rfl, ?_⟩
  subst hw
  obtain ⟨Ad, Ap, nd, cd, np, cp, t, hb, hd, hp, hF, h1, h2, h3⟩ := h.mem
  refine splitW_i (fun hz => ?_) (fun hz => ?_)
  · have hz : ¬ (0 ≤ k ∧ k < d.blocks) := of_decide_eq_false (show d.there k = false by simpa using hz)
    rw [if_pos (.inl hz)]
    exact ⟨rfl, stay rfl⟩
  have hth : 0 ≤ k ∧ k < d.blocks := of_decide_eq_true (show d.there k = true by simpa using hz)
  refine ptr_i (box0 d.size hb (by rfl) (splitW_i (fun hz => ?_) (fun hz => ?_)))
  · rw [if_pos (.inr (bne_iff_ne.1 hz))]
    exact ⟨rfl, stay rfl⟩
  have hsz := bne_eq_false_iff_eq.1 hz
  rw [if_neg (by rintro (x | x); exact x hth; exact x hsz)]
  refine callW_of (done_calls h) ?_
  rintro _ w2 (⟨hz, rfl, hw⟩ | ⟨hz, rfl, hD, hg⟩)
  · refine ⟨_, rfl, splitW_t (by rfl) ?_⟩
    rw [if_pos hz]
    exact ⟨rfl, stay hw⟩
  refine ⟨_, rfl, splitW_f (by rfl) ?_⟩
  rw [if_neg hz]
  obtain ⟨Ad, Ap, nd, cd, np, cp, t, hb, hd, hp, hF, h1, h2, h3⟩ := hD.mem
  have hlp := hp.len
  have hlp2 : d.burnt.pen = d.pen := rfl
  refine ptr_i (boxF 3 (Ap, np, cp) hb (by rfl) ?_)
  refine append_newi (E := writeE) (ys := [(k, s)]) (by rfl) rfl elem_write hp (Nat.zero_le _) (by dsimp only; rw [hlp2] at hlp; omega) (by omega) ?_
  intro A' c' w3 hp3 hg3
  have hb3 := hb.grown hg3.grown (fun e => h2 e.symm)
  have hd3 := hd.grown hg3.grown (fun j hj e => h3 j e hj)
  refine ptr_i ?_
  rw [add_mk]
  refine stW_blk hb3 (by show 0 + 3 < 6; omega) ?_
  have hg4 := set_grown w3 b (0 + 3) (.slice A' (np + 1) c')
  have hb4 := hb3.set (0 + 3) (.slice A' (np + 1) c')
  have hb5 := (hF b).2 (.inl rfl)
  have hnew : ∀ j, orow A' = some j → orow Ap = some j ∨ w2.heap.size ≤ j := hg3.2
  have hbl := hb.lt
  have n1 : orow A' ≠ some b := fun e => by rcases hnew b e with x | x; exact h2 x; omega
  have n2 : ∀ j, orow Ad = some j → orow A' ≠ some j := fun j hj e => by
    rcases hnew j e with x | x
    · exact h3 j hj x
    · have := hd.row_lt j hj; omega
  refine ⟨rfl, fun j => j = b ∨ orow Ad = some j ∨ orow A' = some j, ⟨⟨Ad, A', nd, cd, np + 1, c', t, hb4, hd3.grown hg4 (fun j hj e => by injection hj with hj; subst hj; exact h1 e), hp3.grown hg4 (fun j hj e => by injection hj with hj; subst hj; exact n1 e), fun _ => Iff.rfl, h1, n1, n2⟩, ?_⟩, ?_, ?_⟩
  · refine ⟨hD.ok.geo, hD.ok.len, hD.ok.each, fun p hp => ?_, hD.ok.fuse⟩
    rcases List.mem_append.1 hp with hp | hp
    · exact hD.ok.pend p hp
    · rw [List.mem_singleton.1 hp]; exact ⟨hth.1, hth.2, hsz⟩
  · rintro j (rfl | hj | hj)
    · exact .inl hb5
    · exact .inl ((hF j).2 (.inr (.inl hj)))
    · rcases hnew j hj with x | x
      · exact .inl ((hF j).2 (.inr (.inr x)))
      · exact .inr (Nat.le_trans hg.size x)
  · refine Only.trans (Only.trans (Only.of_grown hg (fun j hj => by injection hj with hj; subst hj; exact .inl hb5)) (Only.of_grown (F := F) hg3.grown (fun j hj => .inl ((hF j).2 (.inr (.inr hj))))) (fun j hj => .inl hj)) (Only.of_grown (F := F) hg4 (fun j hj => by injection hj with hj; subst hj; exact .inl hb5)) (fun j hj => .inl hj)
theorem strE_flat (l : List ByteArray) : strE.flat l = l.map Value.string := by
  induction l with
  | nil => rfl
  | cons a r ih => rw [List.map_cons, ← ih]; rfl
theorem idx_setS {w : World} {e : TypeId} {B : Nat} {A : Option Addr} {n c : Nat} {xs : List ByteArray} {i : Int} {s : ByteArray} {K : WP} (h : Owni strE e w B A n c xs) (h0 : 0 ≤ i) (h1 : i < (n : Int))
    (hK : ∀ w', Owni strE e w' B A n c (xs.set i.toNat s) → w.grownBy w' (orow A) → K w') :
    (guardW (0 ≤ i ∧ i < ((n : Nat) : Int)) <| ptrW A fun p => stW (p.add (Int.toNat i * 1)) (.string s) K) w := by
  refine idx_set (e := e) (B := B) (c := c) (vs := strE.flat xs) h h0 h1 fun w' ho hg => hK w' ?_ (by rw [orow_eq] at hg; exact hg)
  have e1 : (strE.flat xs).set i.toNat (.string s) = strE.flat (xs.set i.toNat s) := by rw [strE_flat, strE_flat, List.map_set]
  rw [e1] at ho
  exact ho
theorem puts_len (l : List (Int × ByteArray)) : ∀ dur : List ByteArray, (l.foldl Go.Proofs.YtcjobbcijbkjkaaGreat.V.put dur).length = dur.length := by
  induction l with
  | nil => intro dur; rfl
  | cons p r ih => intro dur; rw [List.foldl_cons, ih]; simp [Go.Proofs.YtcjobbcijbkjkaaGreat.V.put]
theorem puts_each {n : Int} (l : List (Int × ByteArray)) : ∀ dur : List ByteArray, (∀ s ∈ dur, (s.size : Int) = n) → (∀ p ∈ l, (p.2.size : Int) = n) → ∀ s ∈ l.foldl Go.Proofs.YtcjobbcijbkjkaaGreat.V.put dur, (s.size : Int) = n := by
  induction l with
  | nil => intro dur h _; exact h
  | cons p r ih =>
    intro dur h hl
    rw [List.foldl_cons]
    refine ih _ (fun s hs => ?_) (fun q hq => hl q (List.mem_cons_of_mem _ hq))
    rcases List.mem_or_eq_of_mem_set hs with hs | rfl
    · exact h s hs
    · exact hl p List.mem_cons_self
theorem flush_calls {w : World} {b : Nat} {d : Dev} {F : Nat → Prop} (h : DevAt w b d F) :
    Calls Tryz.prog 82 #[.pointer (some ⟨b, 0, none⟩)] w (Ret fun v w' => v = .int .i64 d.flush.2 ∧ Step w b F d.flush.1 w') := by
  have stay : ∀ {w' : World}, w' = w → Step w b F d w' := fun e => by subst e; exact ⟨F, h, fun k hk => .inl hk, Only.refl F _⟩
  apply calls82
  unfold S82 Dev.flush
  refine splitW_f (by rfl) ?_
  refine callW_of (done_calls h) ?_
  rintro _ w2 (⟨hz, rfl, hw⟩ | ⟨hz, rfl, hD, hg⟩)
  · refine ⟨_, rfl, splitW_t (by rfl) ?_⟩
    rw [if_pos hz]
    exact ⟨rfl, stay hw⟩
  refine ⟨_, rfl, splitW_f (by rfl) ?_⟩
  rw [if_neg hz]
  obtain ⟨Ad, Ap, nd, cd, np, cp, t, hb, hd, hp, hF, h1, h2, h3⟩ := hD.mem
  have hlp : d.pen.length = np := hp.len
  have hld : d.dur.length = nd := hd.len
  have hpl := hp.sl.le
  have hok := h.ok
  refine ptr_i (boxF 3 (Ap, np, cp) hb (by rfl) ?_)
  refine loopW_i (fun y w' => ∃ i : Nat, i ≤ np ∧ y = ((i : Int), ()) ∧ Only F w2 w' ∧ Blk w' b [.int .i64 d.size, .int .i64 d.blocks, .slice Ad nd cd, .slice Ap np cp, .int .i64 d.burnt.ops, .int .i64 d.burnt.fuse] t
      ∧ Owni strE 9 w' 0 Ad nd cd ((d.pen.take i).foldl Go.Proofs.YtcjobbcijbkjkaaGreat.V.put d.dur) ∧ Owni writeE 149 w' 0 Ap np cp d.pen) (fun y => (np - y.1).toNat) ⟨0, by omega, rfl, Only.refl F w2, hb, hd, hp⟩ ?_
  rintro _ w3 ⟨i, hi, rfl, hO, hb, hd, hp⟩
  dsimp only
  by_cases hlt : i < np
  · refine splitW_t (decide_eq_true (by omega)) ?_
    refine idx_A (ls := [.int .i64, .str]) (fun x : Int × ByteArray => (x.1, x.2, ())) (0, ByteArray.empty) hp.sl (fun _ => rfl) rfl (by omega) (by omega) ?_
    rw [Int.toNat_natCast]
    have e : d.pen[i]? = some (d.pen.getD i (0, ByteArray.empty)) := by rw [List.getD_eq_getElem?_getD, List.getElem?_eq_getElem (by omega)]; rfl
    have hq := hok.pend _ (List.mem_of_getElem? e)
    generalize d.pen.getD i (0, ByteArray.empty) = q at e hq ⊢
    have hlen := hok.len
    refine box_i (vs := writeE.f q) (by rfl) (writeE.one q) ?_ (by rfl)
    intro r8 w4 hb8 he4 hr8
    refine draw_i fun w5 he5 _ _ => ?_
    have he35 := he4.trans he5
    have hb8 := hb8.ext he5
    have hb5 := hb.ext he35
    have hd5 := hd.ext he35
    refine ptr_i (boxF 2 (Ad, nd, cd) hb5 (by rfl) (box0 q.1 hb8 (by rfl) (boxF 1 q.2 hb8 (by rfl) ?_)))
    dsimp only
    refine idx_setS hd5 hq.1 (by have := hq.2.1; omega) ?_
    intro w6 hd6 hg6
    have hb6 := hb5.grown hg6 (fun e => h1 e.symm)
    have hp6 := (hp.ext he35).grown hg6 (fun j hj e => h3 j hj e)
    have efold : (d.pen.take (i + 1)).foldl Go.Proofs.YtcjobbcijbkjkaaGreat.V.put d.dur = Go.Proofs.YtcjobbcijbkjkaaGreat.V.put ((d.pen.take i).foldl Go.Proofs.YtcjobbcijbkjkaaGreat.V.put d.dur) q := by
      rw [List.take_add_one, e, List.foldl_append]
      rfl
    refine ⟨⟨i + 1, by omega, by rw [wrap_i64 (by omega) (by omega)]; rfl, ?_, hb6, by rw [efold]; exact hd6, hp6⟩, by rw [wrap_i64 (by omega) (by omega)]; omega⟩
    exact Only.trans (Only.trans hO (Only.of_ext (F := F) he35) (fun j hj => .inl hj)) (Only.of_grown (F := F) hg6 (fun j hj => .inl ((hF j).2 (.inr (.inl hj))))) (fun j hj => .inl hj)
  · obtain rfl : i = np := by omega
    refine splitW_f (decide_eq_false (by omega)) (ptr_i ?_)
    rw [add_mk]
    refine stW_blk hb (by show 0 + 3 < 6; omega) ?_
    have hg7 := set_grown w3 b (0 + 3) (.slice none 0 0)
    have hb7 := hb.set (0 + 3) (.slice none 0 0)
    rw [List.take_of_length_le (by omega)] at hd
    have hbF := (hF b).2 (.inl rfl)
    refine ⟨rfl, fun j => j = b ∨ orow Ad = some j ∨ orow none = some j, ⟨⟨Ad, none, nd, cd, 0, 0, t, hb7, hd.grown hg7 (fun j hj e => by injection hj with hj; subst hj; exact h1 e), Owni.nil _ _ _, fun _ => Iff.rfl, h1, (fun e => by cases e), (fun j hj e => by cases e)⟩, ?_⟩, ?_, ?_⟩
    · exact ⟨hok.geo, by show (((d.pen.foldl Go.Proofs.YtcjobbcijbkjkaaGreat.V.put d.dur).length : Nat) : Int) = d.blocks; rw [puts_len]; exact hok.len, puts_each _ _ hok.each (fun p hp => (hok.pend p hp).2.2), (fun p hp => by cases hp), hD.ok.fuse⟩
    · rintro j (rfl | hj | hj)
      · exact .inl hbF
      · exact .inl ((hF j).2 (.inr (.inl hj)))
      · cases hj
    · exact Only.trans (Only.trans (Only.of_grown (F := F) hg (fun j hj => by injection hj with hj; subst hj; exact .inl hbF)) hO (fun j hj => .inl hj)) (Only.of_grown (F := F) hg7 (fun j hj => by injection hj with hj; subst hj; exact .inl hbF)) (fun j hj => .inl hj)
end Go.Proofs.YtcjobbcijbkjkaaGreat.V

/- Ranges over functions that may be left early; iterators with a state of their own; what loops over functions leave as it was. -/
set_option linter.unusedVariables false
set_option linter.unusedSimpArgs false
namespace Go.Proofs.YtcjobbcijbkjkaaGreat.V
open Go

/-- What an iterator does: it yields L, one by one; R i is what it reads at the i-th, T i what it does behind the i-th. Where yield tells false it ends. -/
def IterT (P : Program) (v : Value) (L : List (List Value)) (R : Nat → WP) (T : Nat → World → World) : Prop :=
  ∃ f cap, v = .func (.func f) #[] cap ∧ enterable P f = true ∧ ∀ (l : Nat) (J : Nat → WP) (E : WP) (w : World), J 0 w → (∀ i w', J i w' → R i w') → (∀ i w', J i w' → J i w'.drew) →
    (∀ i w' (h : i < L.length), J i w' → YieldAt P l L[i] w' fun v w'' => (v = .bool true ∧ R i w'' ∧ J (i + 1) (T i w'')) ∨ (v = .bool false ∧ E w'')) →
    Calls P f (.func (.yield l) #[] #[] :: cap.toList).toArray w (Ret fun _ w' => J L.length w' ∨ E w')
theorem rangeT_i {P : Program} {v : Value} {T : Type} {vals : T → List Value} {Body : T → (WP → WP) → WP → (Code → WP) → WP} {done : Nat → Option Code → WP} {w : World} {L : List (List Value)} {R : Nat → WP} {Tr : Nat → World → World} (I : Nat → WP) (D : Code → WP) (tv : Nat → T) (htv : ∀ i (hi : i < L.length), vals (tv i) = L[i])
    (hit : IterT P v L R Tr) (hR : ∀ i w', I i w' → R i w') (hdr : ∀ i w', I i w' → I i w'.drew)
    (hst : ∀ i w' w'', SameBut w.heap.size (w.heap.size + 1) w' w'' → I i w' → I i w'')
    (hRst : ∀ i w' w'', SameBut w.heap.size (w.heap.size + 1) w' w'' → R i w' → R i w'')
    (hDst : ∀ c w' w'', SameBut w.heap.size (w.heap.size + 1) w' w'' → D c w' → D c w'')
    (hT : ∀ i w' w'', SameBut w.heap.size (w.heap.size + 1) w' w'' → SameBut w.heap.size (w.heap.size + 1) (Tr i w') (Tr i w''))
    (hTk : ∀ i w' (k : Nat), w.heap.size ≤ k → (Tr i w').heap[k]? = w'.heap[k]?)
    (h0 : ∀ o, I 0 ((w.alloc (.deferred (some []))).alloc o))
    (hbody : ∀ (i : Nat) (hi : i < L.length) (w' : World) (G : WP → WP) (N : WP) (jump : Code → WP), I i w' → w.heap.size + 2 ≤ w'.heap.size → 
      (∀ (K : WP) w1, I i w1 → w'.heap.size ≤ w1.heap.size → (∀ k, k = w.heap.size ∨ k = w.heap.size + 1 → w1.heap[k]? = w'.heap[k]?) → (∀ w2, I i w2 → w1.heap.size = w2.heap.size → (∀ k : Nat, k ≠ w.heap.size → k ≠ w.heap.size + 1 → w2.heap[k]? = w1.heap[k]?) →
        (∀ w'', R i w'' ∧ I (i + 1) (Tr i w'') → w2.heap.size ≤ w''.heap.size → (∀ k, k = w.heap.size ∨ k = w.heap.size + 1 → w''.heap[k]? = w2.heap[k]?) → N w'') →
        (∀ c w'', D c w'' → w2.heap.size ≤ w''.heap.size → (∀ k, k = w.heap.size ∨ k = w.heap.size + 1 → w''.heap[k]? = w2.heap[k]?) → jump c w'') → K w2) → G K w1) →
      Body (tv i) G N jump w')
    (hdone : ∀ w', I L.length w' → w.heap.size + 2 ≤ w'.heap.size → w'.heap[w.heap.size]? = some (.deferred (some [])) → done w.heap.size none w')
    (hjump : ∀ c w', D c w' → w.heap.size + 2 ≤ w'.heap.size → w'.heap[w.heap.size]? = some (.deferred (some [])) → done w.heap.size (some c) w') :
    rangeW P v T vals Body done w := by
  obtain ⟨f, cap, rfl, hen, hcalls⟩ := hit
  refine ⟨f, cap, rfl, hen, fun rec hrec hY => ?_⟩
  have hlt : ∀ {w' : World} {o : Obj}, w'.heap[w.heap.size + 1]? = some o → w.heap.size + 1 < w'.heap.size := fun h => (Array.getElem?_eq_some_iff.1 h).1
  refine Calls.mono (hcalls (w.heap.size + 1) (fun i w' => I i w' ∧ w'.heap[w.heap.size + 1]? = some (rec .ready none) ∧ w'.heap[w.heap.size]? = some (.deferred (some [])))
    (fun w' => ∃ c, D c w' ∧ w'.heap[w.heap.size + 1]? = some (rec .done (some c)) ∧ w'.heap[w.heap.size]? = some (.deferred (some []))) _ ⟨h0 _, ?_, ?_⟩ (fun i w' h => hR i w' h.1) (fun i w' h => ⟨hdr i w' h.1, h.2.1, h.2.2⟩) ?_) ?_
  · show ((w.heap.push _).push _)[w.heap.size + 1]? = _
    rw [Array.getElem?_push]
    simp
  · show ((w.heap.push _).push _)[w.heap.size]? = _
    rw [Array.getElem?_push, Array.getElem?_push]
    simp
  · rintro i w' hi ⟨hI, hl, hd⟩
    let Q : Bool → WP := fun b w'' => (b = true ∧ R i w'' ∧ I (i + 1) (Tr i w'') ∧ w''.heap[w.heap.size + 1]? = some (rec .ready none) ∧ w''.heap[w.heap.size]? = some (.deferred (some [])))
      ∨ (b = false ∧ ∃ c, D c w'' ∧ w''.heap[w.heap.size + 1]? = some (rec .done (some c)) ∧ w''.heap[w.heap.size]? = some (.deferred (some [])))
    have hb := hbody i hi w' (fun K w1 => w1.heap[w.heap.size + 1]? = some (rec .ready none) ∧ K (setO w1 (w.heap.size + 1) (rec .busy none)))
      (fun w2 => w2.heap[w.heap.size + 1]? = some (rec .busy none) ∧ Q true (setO w2 (w.heap.size + 1) (rec .ready none)))
      (fun c w2 => w2.heap[w.heap.size + 1]? = some (rec .busy none) ∧ Q false (setO w2 (w.heap.size + 1) (rec .done (some c)))) hI (by have := hlt hl; omega)
      (fun K w1 hI1 hs1 hk1 hG => by
        have hl1 := hk1 (w.heap.size + 1) (.inr rfl)
        rw [hl] at hl1
        have hd1 := hk1 w.heap.size (.inl rfl)
        rw [hd] at hd1
        refine ⟨hl1, hG _ (hst i w1 _ (sameBut_setO (o := rec .busy none) (.inr rfl)) hI1) (by rw [setO_size]) (fun k h1 h2 => setO_other (fun e => h2 e.symm)) ?_ ?_⟩
        · intro w'' hI3 hs hk
          have h1 := hk (w.heap.size + 1) (.inr rfl)
          rw [setO_same (hlt hl1)] at h1
          have h2 := hk w.heap.size (.inl rfl)
          rw [setO_other (by omega), hd1] at h2
          refine ⟨h1, .inl ⟨rfl, hRst _ _ _ (sameBut_setO (.inr rfl)) hI3.1, hst _ _ _ (hT i _ _ (sameBut_setO (.inr rfl))) hI3.2, setO_same (hlt h1), ?_⟩⟩
          rw [setO_other (by omega)]; exact h2
        · intro c w'' hD hs hk
          have h1 := hk (w.heap.size + 1) (.inr rfl)
          rw [setO_same (hlt hl1)] at h1
          have h2 := hk w.heap.size (.inl rfl)
          rw [setO_other (by omega), hd1] at h2
          refine ⟨h1, .inr ⟨rfl, c, hDst _ _ _ (sameBut_setO (.inr rfl)) hD, setO_same (hlt h1), ?_⟩⟩
          rw [setO_other (by omega)]; exact h2)
    have := hY (tv i) w' Q hl hb
    rw [htv i hi] at this
    obtain ⟨fn, tmps, asg, bd, h1, h2⟩ := this
    refine ⟨fn, tmps, asg, bd, h1, RoundIn.mono h2 ?_⟩
    rintro (v | c | _) w2 he
    · obtain ⟨b, rfl, ⟨rfl, hh1, hh2, hh3, hh4⟩ | ⟨rfl, hh⟩⟩ := he
      · exact .inl ⟨rfl, hh1, hh2, by rw [hTk i _ _ (by omega)]; exact hh3, by rw [hTk i _ _ (by omega)]; exact hh4⟩
      · exact .inr ⟨rfl, hh⟩
    · exact he
    · exact he
  · rintro (v | c | _) w3 he
    · rcases he with ⟨hI, hl, hd⟩ | ⟨c, hD, hl, hd⟩
      · refine ⟨.ready, none, by simp, hl, hdone _ (hst _ _ _ (sameBut_setO (.inr rfl)) hI) (by rw [setO_size]; have := hlt hl; omega) ?_⟩
        rw [setO_other (by omega)]
        exact hd
      · refine ⟨.done, some c, by simp, hl, hjump c _ (hDst _ _ _ (sameBut_setO (.inr rfl)) hD) (by rw [setO_size]; have := hlt hl; omega) ?_⟩
        rw [setO_other (by omega)]
        exact hd
    · exact he
    · exact he
/-- An iterator without a state of its own. -/
def Iter2 (P : Program) (v : Value) (L : List (List Value)) (R : WP) : Prop := IterT P v L (fun _ => R) (fun _ w => w)

theorem SameBut.ext {a : Nat} {w0 w w' : World} (h : SameBut a (a + 1) w w') (he : Ext w0 w) (ha : w0.heap.size ≤ a) : Ext w0 w' := by
  obtain ⟨h1, h2, h3, h4, h5⟩ := h
  exact ⟨h1.trans he.os, h2.trans he.tape, h3.trans he.output, by have := he.size; omega, fun k hk => (h5 k (by omega) (by omega)).trans (he.block k hk)⟩
theorem SameBut.blk {a r : Nat} {w w' : World} {cs : List Value} {t : TypeId} (h : SameBut a (a + 1) w w') (hb : Blk w r cs t) (hr : r < a) : Blk w' r cs t :=
  (h.2.2.2.2 r (by omega) (by omega)).trans hb
theorem SameBut.size {a b : Nat} {w w' : World} (h : SameBut a b w w') : w'.heap.size = w.heap.size := h.2.2.2.1
theorem Blk.at_ {w w' : World} {r : Nat} {cs : List Value} {t : TypeId} (hb : Blk w r cs t) (h : w'.heap[r]? = w.heap[r]?) : Blk w' r cs t := h.trans hb
/-- A range whose body opens with the loop's own mark. -/
theorem rangeS_i {P : Program} {v : Value} {T : Type} {vals : T → List Value} {Body : T → WP → (Code → WP) → WP} {done : Nat → Option Code → WP} {w : World} {L : List (List Value)} {R : Nat → WP} {Tr : Nat → World → World} (I : Nat → WP) (D : Code → WP) (tv : Nat → T) (htv : ∀ i (hi : i < L.length), vals (tv i) = L[i])
    (hit : IterT P v L R Tr) (hR : ∀ i w', I i w' → R i w') (hdr : ∀ i w', I i w' → I i w'.drew)
    (hst : ∀ i w' w'', SameBut w.heap.size (w.heap.size + 1) w' w'' → I i w' → I i w'')
    (hRst : ∀ i w' w'', SameBut w.heap.size (w.heap.size + 1) w' w'' → R i w' → R i w'')
    (hDst : ∀ c w' w'', SameBut w.heap.size (w.heap.size + 1) w' w'' → D c w' → D c w'')
    (hT : ∀ i w' w'', SameBut w.heap.size (w.heap.size + 1) w' w'' → SameBut w.heap.size (w.heap.size + 1) (Tr i w') (Tr i w''))
    (hTk : ∀ i w' (k : Nat), w.heap.size ≤ k → (Tr i w').heap[k]? = w'.heap[k]?)
    (h0 : ∀ o, I 0 ((w.alloc (.deferred (some []))).alloc o))
    (hbody : ∀ (i : Nat) (hi : i < L.length) (w' : World) (N : WP) (jump : Code → WP), I i w' → w.heap.size + 2 ≤ w'.heap.size →
        (∀ w'', R i w'' ∧ I (i + 1) (Tr i w'') → w'.heap.size ≤ w''.heap.size → (∀ k, k = w.heap.size ∨ k = w.heap.size + 1 → w''.heap[k]? = w'.heap[k]?) → N w'') →
        (∀ c w'', D c w'' → w'.heap.size ≤ w''.heap.size → (∀ k, k = w.heap.size ∨ k = w.heap.size + 1 → w''.heap[k]? = w'.heap[k]?) → jump c w'') →
      Body (tv i) N jump w')
    (hdone : ∀ w', I L.length w' → w.heap.size + 2 ≤ w'.heap.size → w'.heap[w.heap.size]? = some (.deferred (some [])) → done w.heap.size none w')
    (hjump : ∀ c w', D c w' → w.heap.size + 2 ≤ w'.heap.size → w'.heap[w.heap.size]? = some (.deferred (some [])) → done w.heap.size (some c) w') :
    rangeW P v T vals (fun t begin next jump => begin (Body t next jump)) done w := by
  refine rangeT_i I D tv htv hit hR hdr hst hRst hDst hT hTk h0 ?_ hdone hjump
  intro i hi w' G N jump hI hs hG
  exact hG _ w' hI (Nat.le_refl _) (fun _ _ => rfl) fun w2 hI2 hsz hk hN hJ => hbody i hi w2 N jump hI2 (by omega) hN hJ
end Go.Proofs.YtcjobbcijbkjkaaGreat.V

/- Contracts of the package device: Read, Image, Pending, Geo. -/
set_option linter.unusedVariables false
set_option linter.unusedSimpArgs false
namespace Go.Proofs.YtcjobbcijbkjkaaGreat.V
open Go Go.Proofs Go.RowKit Crc

theorem DevAt.ext {w w' : World} {b : Nat} {d : Dev} {F : Nat → Prop} (h : DevAt w b d F) (k : Ext w w') : DevAt w' b d F :=
  h.apart (G := fun _ => False) (Only.of_ext k) (fun _ _ h => h)
abbrev w00 : Int × ByteArray := (0, ByteArray.empty)
def RLat (r1 : Nat) (A : Option Addr) (n c : Nat) (ps : List (Int × ByteArray)) : WP := fun w => Blk w r1 [.slice A n c] 116 ∧ Sli writeE w A n ps
def latV (ps : List (Int × ByteArray)) : List (List Value) := (List.range ps.length).map fun i => [.int .i64 ((ps.length - 1 - i : Nat) : Int), .agg #[.int .i64 (ps.getD (ps.length - 1 - i) w00).1, .string (ps.getD (ps.length - 1 - i) w00).2]]
theorem latV_length (ps : List (Int × ByteArray)) : (latV ps).length = ps.length := by simp [latV]
theorem backwr_calls {w : World} {A : Option Addr} {n c : Nat} {ps : List (Int × ByteArray)} (h : Sli writeE w A n ps) :
    Calls Tryz.prog 109 #[.slice A n c] w (Ret fun v w' => Iter2 Tryz.prog v (latV ps) (RLat w.heap.size A n c ps) ∧ RLat w.heap.size A n c ps w' ∧ w'.heap.size = w.heap.size + 1 ∧ Ext w w') := by
  apply calls109
  unfold S109
  apply newW_i
  have he := (Ext.refl w).alloc (.cells #[.slice A n c] 116)
  refine ⟨⟨_, _, rfl, by kernel_rfl, fun l J E w' hJ hR hd hY => ?_⟩, ⟨Blk.new w #[.slice A n c] 116, h.ext he⟩, by simp, he⟩
  apply calls121
  unfold S121
  rw [latV_length]
  obtain ⟨h1, h2⟩ := hR 0 w' hJ
  have hl := h2.len
  have hle := h2.le
  refine ldW_blk (x := (A, n, c)) h1 (by rfl) ?_
  dsimp only
  rw [wrap_i64 (by omega) (by omega)]
  refine loopW_i (fun y w' => ∃ i : Nat, i ≤ n ∧ y = ((n : Int) - 1 - i, ()) ∧ J i w') (fun y => (y.1 + 1).toNat) ⟨0, by omega, by simp, hJ⟩ ?_
  rintro _ w1 ⟨i, hi, rfl, hJ⟩
  dsimp only
  by_cases hlt : i < n
  · refine splitW_t (decide_eq_true (by omega)) ?_
    obtain ⟨h1, h2⟩ := hR i w1 hJ
    refine ldW_blk (x := (A, n, c)) h1 (by rfl) ?_
    dsimp only
    refine idx_A (ls := [.int .i64, .str]) (fun x : Int × ByteArray => (x.1, x.2, ())) w00 h2 (fun _ => rfl) rfl (by omega) (by omega) ?_
    have hlt' : i < (latV ps).length := by rw [latV_length]; omega
    refine .inr ⟨l, rfl, ?_⟩
    have hy := hY i w1 hlt' hJ
    have el : (latV ps)[i] = [.int .i64 ((n : Int) - 1 - i), .agg #[.int .i64 (ps.getD (Int.toNat ((n : Int) - 1 - i)) w00).1, .string (ps.getD (Int.toNat ((n : Int) - 1 - i)) w00).2]] := by
      have e1 : ((ps.length - 1 - i : Nat) : Int) = (n : Int) - 1 - i := by omega
      have e2 : Int.toNat ((n : Int) - 1 - i) = ps.length - 1 - i := by omega
      rw [e2, ← e1]
      simp [latV]
    rw [el] at hy
    obtain ⟨fn, tmps, asg, bd, hy1, hy2⟩ := hy
    refine ⟨fn, tmps, asg, bd, hy1, RoundIn.mono hy2 ?_⟩
    rintro (v | x | _) w2 hv
    · rcases hv with ⟨rfl, _, hJ2⟩ | ⟨rfl, hE⟩
      · refine ⟨true, rfl, splitW_f (by rfl) ?_⟩
        rw [wrap_i64 (by omega) (by omega)]
        exact ⟨⟨i + 1, by omega, by congr 1; omega, hJ2⟩, by omega⟩
      · exact ⟨false, rfl, splitW_t (by rfl) (.inr hE)⟩
    · exact hv
    · exact hv
  · refine splitW_f (decide_eq_false (by omega)) ?_
    obtain rfl : i = n := by omega
    rw [hl]
    exact .inl hJ
theorem latest_calls {w : World} {b : Nat} {d : Dev} {F : Nat → Prop} (h : DevAt w b d F) :
    Calls Tryz.prog 86 #[.pointer (some ⟨b, 0, none⟩)] w (Ret fun v w' => ∃ A n c, Iter2 Tryz.prog v (latV d.pen) (RLat w.heap.size A n c d.pen) ∧ RLat w.heap.size A n c d.pen w' ∧ w'.heap.size = w.heap.size + 1 ∧ Ext w w') := by
  obtain ⟨Ad, Ap, nd, cd, np, cp, t, hb, hd, hp, hF, h1, h2, h3⟩ := h.mem
  apply calls86
  unfold S86
  refine ptr_i (boxF 3 (Ap, np, cp) hb (by rfl) ?_)
  refine callW_of (backwr_calls hp.sl) ?_
  rintro v w1 hw
  exact ⟨v, rfl, Ap, np, cp, hw⟩
theorem getD_set (l : List ByteArray) (i k : Nat) (x e : ByteArray) : (l.set i x).getD k e = if i = k ∧ k < l.length then x else l.getD k e := by
  rw [List.getD_eq_getElem?_getD, List.getD_eq_getElem?_getD, List.getElem?_set]
  by_cases hik : i = k
  · subst hik
    by_cases hk : i < l.length
    · simp [hk]
    · simp [hk]
  · rw [if_neg hik, if_neg (fun h => hik h.1)]
theorem puts_skip {k : Int} (hk : 0 ≤ k) {e : ByteArray} : ∀ (l : List (Int × ByteArray)) (dur : List ByteArray), (∀ p ∈ l, 0 ≤ p.1) → (∀ p ∈ l, p.1 ≠ k) → (l.foldl Go.Proofs.YtcjobbcijbkjkaaGreat.V.put dur).getD k.toNat e = dur.getD k.toNat e
  | [], _, _, _ => rfl
  | p :: r, dur, h0, h => by
    rw [List.foldl_cons, puts_skip hk r _ (fun q hq => h0 q (List.mem_cons_of_mem _ hq)) (fun q hq => h q (List.mem_cons_of_mem _ hq))]
    have h1 := h0 p List.mem_cons_self
    have h2 := h p List.mem_cons_self
    unfold Go.Proofs.YtcjobbcijbkjkaaGreat.V.put
    rw [getD_set, if_neg (by omega)]
theorem puts_last {k : Int} (hk : 0 ≤ k) {e : ByteArray} {l : List (Int × ByteArray)} {dur : List ByteArray} {j : Nat} (h0 : ∀ p ∈ l, 0 ≤ p.1) (hj : j < l.length) (hkl : k.toNat < dur.length) (he : (l.getD j w00).1 = k) (hno : ∀ i, j < i → i < l.length → (l.getD i w00).1 ≠ k) :
    (l.foldl Go.Proofs.YtcjobbcijbkjkaaGreat.V.put dur).getD k.toNat e = (l.getD j w00).2 := by
  have e1 : l = l.take j ++ l.getD j w00 :: l.drop (j + 1) := by
    rw [List.getD_eq_getElem?_getD, List.getElem?_eq_getElem hj, Option.getD_some, ← List.drop_eq_getElem_cons hj, List.take_append_drop]
  generalize hq : l.getD j w00 = q at e1 he ⊢
  have hd : ∀ p ∈ l.drop (j + 1), p.1 ≠ k := by
    intro p hp
    obtain ⟨i, hi, rfl⟩ := List.mem_iff_getElem.1 hp
    rw [List.length_drop] at hi
    have := hno (j + 1 + i) (by omega) (by omega)
    rw [List.getD_eq_getElem?_getD, List.getElem?_eq_getElem (by omega), Option.getD_some] at this
    simpa using this
  rw [e1, List.foldl_append, List.foldl_cons, puts_skip hk _ _ (fun p hp => h0 p (List.mem_of_mem_drop hp)) hd]
  unfold Go.Proofs.YtcjobbcijbkjkaaGreat.V.put
  have hl := puts_len (l.take j) dur
  unfold Go.Proofs.YtcjobbcijbkjkaaGreat.V.put at hl
  rw [getD_set, he, if_pos ⟨rfl, by rw [hl]; exact hkl⟩]
theorem read_calls {w : World} {b : Nat} {d : Dev} {F : Nat → Prop} (h : DevAt w b d F) (k : Int) :
    Calls Tryz.prog 57 #[.pointer (some ⟨b, 0, none⟩), .int .i64 k] w (Ret fun v w' => v = .tuple #[.string (d.read k).1, .int .i64 (d.read k).2] ∧ Ext w w') := by
  apply calls57
  unfold S57 Dev.read
  refine new_i fun r1 w1 hb1 he1 hr1 hz1 => ?_
  refine new_i fun r2 w2 hb2 he2 hr2 hz2 => ?_
  refine new_i fun r3 w3 hb3 he3 hr3 hz3 => ?_
  have hb1 := (hb1.ext he2).ext he3
  have hb2 := hb2.ext he3
  have he := (he1.trans he2).trans he3
  refine splitW_f (by rfl) ?_
  refine ldW_blk (x := k) hb1 (by rfl) ?_
  have hD := h.ext he
  refine callW_of (there_calls hD k) ?_
  rintro _ w4 ⟨rfl, hw⟩
  refine ⟨_, rfl, ?_⟩
  obtain rfl : w3 = w4 := hw.symm
  refine splitW_i (fun hz => ?_) (fun hz => ?_)
  · have hz : ¬ (0 ≤ k ∧ k < d.blocks) := of_decide_eq_false (show d.there k = false by simpa using hz)
    rw [if_pos hz]
    refine stW_blk hb2 (by show 0 < 1; omega) ?_
    have hb3' := hb3.other (p := ⟨r2, 0, none⟩) (by show r2 ≠ r3; omega) (.string (ByteArray.mk #[]))
    refine stW_blk hb3' (by show 0 < 1; omega) ?_
    have hb2' := (hb2.set 0 (.string (ByteArray.mk #[]))).other (p := ⟨r3, 0, none⟩) (by show r3 ≠ r2; omega) (.int .i64 2)
    have hb3'' := hb3'.set 0 (.int .i64 2)
    refine ldW_blk (x := ByteArray.mk #[]) hb2' (by rfl) (ldW_blk (x := (2 : Int)) hb3'' (by rfl) ?_)
    exact ⟨rfl, (he.set (by show w.heap.size ≤ r2; omega) _).set (by show w.heap.size ≤ r3; omega) _⟩
  have hth : 0 ≤ k ∧ k < d.blocks := of_decide_eq_true (show d.there k = true by simpa using hz)
  rw [if_neg (fun x => x hth)]
  have hok := h.ok
  have hlen := hok.len
  have h0 : ∀ p ∈ d.pen, 0 ≤ p.1 := fun p hp => (hok.pend p hp).1
  refine callW_of (latest_calls hD) ?_
  rintro v w4 ⟨A, n, c, hit, hRL, hs4, he4⟩
  refine ⟨v, rfl, ?_⟩
  have hr4 := hRL.1.lt
  let G : World → Prop := fun w' => Ext w w' ∧ Blk w' r1 [.int .i64 k] 3 ∧ RLat w3.heap.size A n c d.pen w' ∧ w4.heap.size ≤ w'.heap.size
  have hG4 : G w4 := ⟨he.trans he4, hb1.ext he4, hRL, Nat.le_refl _⟩
  have hGext : ∀ {w' w'' : World}, G w' → Ext w' w'' → G w'' := fun hg hx => ⟨hg.1.trans hx, hg.2.1.ext hx, ⟨hg.2.2.1.1.ext hx, hg.2.2.1.2.ext hx⟩, Nat.le_trans hg.2.2.2 hx.size⟩
  have hsame : ∀ {w' w'' : World}, SameBut w4.heap.size (w4.heap.size + 1) w' w'' → G w' → G w'' := fun hs hg => by
    have hx := hs.ext hg.1 (by have := he4.size; omega)
    obtain ⟨g1, g2, g3, g4⟩ := hg
    refine ⟨hx, hs.blk g2 (by omega), ⟨hs.blk g3.1 (by omega), ?_⟩, by rw [hs.size]; exact g4⟩
    obtain ⟨s1, s2, s3⟩ := g3.2
    obtain ⟨t1, t2, t3⟩ := hRL.2
    refine ⟨s1, s2, fun hn => ?_⟩
    obtain ⟨a, e1, e2, e3⟩ := t3 hn
    refine ⟨a, e1, e2, fun j v hj => ?_⟩
    have hc := e3 j v hj
    have hab : (a.add j).block = a.block := by unfold Addr.add; split <;> rfl
    have hlt := World.block_lt_of_cell? w4 _ hc
    obtain ⟨a', e1', e2', e3'⟩ := s3 hn
    obtain rfl : a' = a := by rw [e1] at e1'; exact (Option.some.inj e1').symm
    have hc' := e3' j v hj
    unfold World.cell? at hc' ⊢
    rw [hs.2.2.2.2 _ (by omega) (by omega)]
    exact hc'
  have hp0 : ∀ j, j < d.pen.length → d.pen[j]? = some (d.pen.getD j w00) := fun j hj => by rw [List.getD_eq_getElem?_getD, List.getElem?_eq_getElem hj]; rfl
  refine rangeT_i (fun i w' => G w' ∧ Blk w' r2 [.string ByteArray.empty] 9 ∧ Blk w' r3 [.int .i64 0] 31 ∧ ∀ j, d.pen.length - i ≤ j → j < d.pen.length → (d.pen.getD j w00).1 ≠ k)
    (fun c w' => c = .ret ∧ Ext w w' ∧ ∃ s, Blk w' r2 [.string s] 9 ∧ Blk w' r3 [.int .i64 0] 31 ∧ s = (d.pen.foldl Go.Proofs.YtcjobbcijbkjkaaGreat.V.put d.dur).getD k.toNat ByteArray.empty)
    (fun i => (((d.pen.length - 1 - i : Nat) : Int), ((d.pen.getD (d.pen.length - 1 - i) w00).1, (d.pen.getD (d.pen.length - 1 - i) w00).2, ()), ())) ?_ hit ?_ ?_ ?_ ?_ ?_ ?_ ?_ ?_ ?_ ?_ ?_
  · intro i hi
    simp [latV]
  · intro i w' hI
    exact hI.1.2.2.1
  · intro i w' hI
    exact ⟨hGext hI.1 ((Ext.refl _).drew), hI.2.1, hI.2.2.1, hI.2.2.2⟩
  · intro i w' w'' hs hI
    exact ⟨hsame hs hI.1, hs.blk hI.2.1 (by omega), hs.blk hI.2.2.1 (by omega), hI.2.2.2⟩
  · intro i w' w'' hs hR
    refine ⟨hs.blk hR.1 (by omega), ?_⟩
    obtain ⟨s1, s2, s3⟩ := hR.2
    obtain ⟨t1, t2, t3⟩ := hRL.2
    refine ⟨s1, s2, fun hn => ?_⟩
    obtain ⟨a, e1, e2, e3⟩ := t3 hn
    refine ⟨a, e1, e2, fun j v hj => ?_⟩
    have hc := e3 j v hj
    have hlt := World.block_lt_of_cell? w4 _ hc
    obtain ⟨a', e1', e2', e3'⟩ := s3 hn
    obtain rfl : a' = a := by rw [e1] at e1'; exact (Option.some.inj e1').symm
    have hc' := e3' j v hj
    unfold World.cell? at hc' ⊢
    rw [hs.2.2.2.2 _ (by omega) (by omega)]
    exact hc'
  · rintro c w' w'' hs ⟨rfl, hx, s, g1, g2, g3⟩
    exact ⟨rfl, hs.ext hx (by have := he4.size; have := he.size; omega), s, hs.blk g1 (by omega), hs.blk g2 (by omega), g3⟩
  · intro i w' w'' hs
    exact hs
  · intro i w' k hk
    rfl
  · intro o
    have hx : Ext w4 ((w4.alloc (.deferred (some []))).alloc o) := ((Ext.refl w4).alloc _).alloc _
    exact ⟨hGext hG4 hx, (hb2.ext he4).ext hx, (hb3.ext he4).ext hx, fun j hj hj2 => by omega⟩
  · intro i hi w' G' N jump hI hsz hG'
    rw [latV_length] at hi
    obtain ⟨hI1, hI2, hI3, hI4⟩ := hI
    dsimp only
    refine box_i (vs := writeE.f (d.pen.getD (d.pen.length - 1 - i) w00)) (by rfl) (writeE.one _) ?_ (by rfl)
    intro r17 w5 hb17 he5 hr17
    have hk5 : ∀ k : Nat, k = w4.heap.size ∨ k = w4.heap.size + 1 → w5.heap[k]? = w'.heap[k]? := fun k hk => he5.block k (by omega)
    refine hG' _ w5 ⟨hGext hI1 he5, hI2.ext he5, hI3.ext he5, hI4⟩ he5.size hk5 ?_
    intro w6 hI6 hsz6 hk6 hN hJ
    obtain ⟨hI1, hI2, hI3, hI4⟩ := hI6
    have hb17 := hb17.at_ (hk6 r17 (by omega) (by omega))
    have hb17lt := hb17.lt
    refine ldW_blk (x := (d.pen.getD (d.pen.length - 1 - i) w00).1) hb17 (by rfl) ?_
    refine ldW_blk (x := k) hI1.2.1 (by rfl) ?_
    refine splitW_i (fun hz => ?_) (fun hz => ?_)
    · have hz := beq_iff_eq.1 hz
      refine boxF 1 (d.pen.getD (d.pen.length - 1 - i) w00).2 hb17 (by rfl) ?_
      refine stW_blk hI2 (by show 0 < 1; omega) ?_
      have hb3' := hI3.other (p := ⟨r2, 0, none⟩) (by show r2 ≠ r3; omega) (.string (d.pen.getD (d.pen.length - 1 - i) w00).2)
      refine stW_blk hb3' (by show 0 < 1; omega) ?_
      have hb2' := (hI2.set 0 (.string (d.pen.getD (d.pen.length - 1 - i) w00).2)).other (p := ⟨r3, 0, none⟩) (by show r3 ≠ r2; omega) (.int .i64 0)
      have hb3'' := hb3'.set 0 (.int .i64 0)
      refine hJ .ret _ ⟨rfl, (hI1.1.set (by show w.heap.size ≤ r2; omega) _).set (by show w.heap.size ≤ r3; omega) _, _, hb2', hb3'', ?_⟩ (by simp) (fun k hk => ?_)
      · refine (puts_last hth.1 h0 (by omega) (by omega) hz (fun j hj hj2 => hI4 j (by omega) hj2)).symm
      · rw [Below.heap_setCell _ _ _ _ (by show k ≠ r3; omega), Below.heap_setCell _ _ _ _ (by show k ≠ r2; omega)]
    · have hz := beq_eq_false_iff_ne.1 hz
      refine hN w6 ⟨hI1.2.2.1, hI1, hI2, hI3, fun j hj hj2 => ?_⟩ (Nat.le_refl _) (fun _ _ => rfl)
      by_cases hjj : j = d.pen.length - 1 - i
      · rw [hjj]; exact hz
      · exact hI4 j (by omega) hj2
  · rintro w' ⟨hI1, hI2, hI3, hI4⟩ hsz hdf
    rw [latV_length] at hI4
    rw [jumpK]
    refine draw_i fun w5 he5 hs5 hk5 => ?_
    have hx : Ext w w5 := hI1.1.trans he5
    obtain ⟨Ad, Ap, nd, cd, np, cp, t, hb, hd, hp, hF, g1, g2, g3⟩ := (h.ext hx).mem
    have hdl := hd.len
    refine ptr_i (boxF 2 (Ad, nd, cd) hb (by rfl) (ldW_blk (x := k) (hI1.2.1.ext he5) (by rfl) ?_))
    dsimp only
    refine idx_str hd.sl hth.1 (by omega) ?_
    have hI2 := hI2.ext he5
    have hI3 := hI3.ext he5
    refine stW_blk hI2 (by show 0 < 1; omega) ?_
    have hb3' := hI3.other (p := ⟨r2, 0, none⟩) (by show r2 ≠ r3; omega) (.string (d.dur.getD k.toNat ByteArray.empty))
    refine stW_blk hb3' (by show 0 < 1; omega) ?_
    have hb2' := (hI2.set 0 (.string (d.dur.getD k.toNat ByteArray.empty))).other (p := ⟨r3, 0, none⟩) (by show r3 ≠ r2; omega) (.int .i64 0)
    have hb3'' := hb3'.set 0 (.int .i64 0)
    have hx2 := (hx.set (p := ⟨r2, 0, none⟩) (by show w.heap.size ≤ r2; omega) (.string (d.dur.getD k.toNat ByteArray.empty))).set (p := ⟨r3, 0, none⟩) (by show w.heap.size ≤ r3; omega) (.int .i64 0)
    refine leave_i ?_ ?_
    · rw [Below.heap_setCell _ _ _ _ (by show w4.heap.size ≠ r3; omega), Below.heap_setCell _ _ _ _ (by show w4.heap.size ≠ r2; omega), hk5]
      exact hdf
    have hsb := sameBut_setO (a := w4.heap.size) (b := w4.heap.size + 1) (w := (w5.setCell ⟨r2, 0, none⟩ (.string (d.dur.getD k.toNat ByteArray.empty))).setCell ⟨r3, 0, none⟩ (.int .i64 0)) (o := .deferred none) (.inl rfl)
    refine ldW_blk (x := d.dur.getD k.toNat ByteArray.empty) (hsb.blk hb2' (by omega)) (by rfl) (ldW_blk (x := (0 : Int)) (hsb.blk hb3'' (by omega)) (by rfl) ?_)
    refine ⟨?_, hsb.ext hx2 (by have := he4.size; have := he.size; omega)⟩
    rw [puts_skip hth.1 _ _ h0 (fun p hp => ?_)]
    obtain ⟨j, hj, rfl⟩ := List.mem_iff_getElem.1 hp
    have := hI4 j (by omega) hj
    rw [List.getD_eq_getElem?_getD, List.getElem?_eq_getElem hj] at this
    exact this
  · rintro c' w' ⟨rfl, hx, s, hb2', hb3', rfl⟩ hsz hdf
    rw [jumpK]
    refine leave_i hdf ?_
    have hsb := sameBut_setO (a := w4.heap.size) (b := w4.heap.size + 1) (w := w') (o := .deferred none) (.inl rfl)
    refine ldW_blk (x := (d.pen.foldl Go.Proofs.YtcjobbcijbkjkaaGreat.V.put d.dur).getD k.toNat ByteArray.empty) (hsb.blk hb2' (by omega)) (by rfl) (ldW_blk (x := (0 : Int)) (hsb.blk hb3' (by omega)) (by rfl) ?_)
    exact ⟨rfl, hsb.ext hx (by have := he4.size; have := he.size; omega)⟩
end Go.Proofs.YtcjobbcijbkjkaaGreat.V

/- Rules and words that several seats share. -/
set_option linter.unusedVariables false
set_option linter.unusedSimpArgs false
namespace Go.Proofs.YtcjobbcijbkjkaaGreat.V
open Go Go.Proofs Go.RowKit
section
variable {α : Type} {P : Program} {t e : TypeId} {z : Value} {bytes : Nat} {E : Enc α}
/-- slices.Clone -/
theorem clone_i {w : World} {A : Option Addr} {n c : Nat} {xs : List α} {K : Value → WP} (hE : ElemK P t e z E.k bytes) (h : Sli E w A n xs) (hlen : n * bytes ≤ 140737488355328) (hb : 0 < bytes)
    (hK : ∀ A' c' w', Owni E e w' w.heap.size A' n c' xs → Ext w w' → K (.slice A' n c') w') :
    (splitW (Option.isNone A) (K (.slice none 0 0)) <|
      newW (.cells #[] e) fun (r1 : Nat) => runW P (Builtin.append_ #[t, t] t #[.slice (some (⟨r1, 0, none⟩ : Addr)) 0 0, .slice A n c]) .slc fun (u2 : (Option Addr × Nat × Nat)) => K (.slice u2.1 u2.2.1 u2.2.2)) w := by
  refine splitW_i (fun hA => ?_) (fun hA => ?_)
  · have hA : A = none := by simpa using hA
    subst hA
    obtain rfl : n = 0 := by
      rcases Nat.eq_zero_or_pos n with h0 | h0
      · exact h0
      · obtain ⟨a, h1, _⟩ := h.2.2 h0; cases h1
    obtain rfl : xs = [] := List.eq_nil_of_length_eq_zero h.1
    exact hK none 0 w (Owni.nil _ _ _) (Ext.refl w)
  · apply newW_i
    have he : Ext w (w.alloc (.cells #[] e)) := (Ext.refl w).alloc _
    have ho : Owni E e (w.alloc (.cells #[] e)) w.heap.size (some ⟨w.heap.size, 0, none⟩) 0 0 ([] : List α) := Owni.lit (xs := []) (n := 0) rfl (Nat.le_refl _) (by omega)
    refine append_sli hE ho (by simp) (h.ext he) (by rw [Nat.zero_add]; exact hlen) hb ?_
    intro A' c' w' ho' hg _
    rw [Nat.zero_add] at ho' ⊢
    exact hK A' c' w' (by simpa using ho') (Ext.grown he hg.1 (fun j hj => by injection hj with hj; subst hj; exact Nat.le_refl _))
/-- copy(s, x...) -/
theorem copy_sl {w : World} {b o n c m d : Nat} {ty u t2 : TypeId} {X : Option Addr} {cs ys : List Value} {K : Int → WP} (hE : Elem P t e z bytes) (hb : Blk w b cs t2) (hx : Sl w X m ys) (hys : ∀ y ∈ ys, y.oneCell' = true) (ho : o + min m n ≤ cs.length) (hX : X ≠ none)
    (hK : ∀ w', Blk w' b (cs.take o ++ ys.take (min m n) ++ cs.drop (o + min m n)) t2 → w.grownBy w' (some b) → K ((min m n : Nat) : Int) w') :
    runW P (Builtin.copy_ #[t, u] ty #[.slice (some ⟨b, o, none⟩) n c, .slice X m d]) (.int .i64) K w := by
  obtain ⟨ht, hi, hz⟩ := hE
  obtain ⟨i, hi, hii⟩ := Option.map_eq_some_iff.1 hi
  simp only [Prod.mk.injEq] at hii
  obtain ⟨hz0, hz1, hz2⟩ := hii
  have hl := hx.len
  obtain ⟨a, rfl⟩ := Option.ne_none_iff_exists'.1 hX
  have hlen : (ys.take (min m n)).length = min m n := by rw [List.length_take]; omega
  have hsrc : ∀ j v, (ys.take (min m n))[j]? = some v → w.cell? (a.add j) = some v := fun j v hj => by
    rw [List.getElem?_take] at hj
    split at hj
    · rcases Nat.eq_zero_or_pos m with h0 | h0
      · omega
      · obtain ⟨a', h1, h2⟩ := hx.2.2 h0
        cases h1
        exact h2 j v hj
    · cases hj
  have hr := run_copy_row (P := P) w t u ty e b o n c a m d cs.toArray t2 (ys.take (min m n)) ht (by rw [hi]; simp [hz1]) hb hlen hsrc (by rw [hlen]; simpa using ho) (fun v hv => hys v (List.mem_of_mem_take hv))
  rw [hlen] at hr
  refine ⟨((min m n : Nat) : Int), _, hr, hK _ ?_ ?_⟩
  · have hb' : w.heap[b]? = some (.cells cs.toArray t2 (0, 0)) := hb
    show (w.heap.modify b _)[b]? = _
    rw [Array.getElem?_modify, if_pos rfl, hb']
    simp
  · refine ⟨rfl, rfl, rfl, by simp [World.setRow], fun k hk hne => ?_⟩
    simp [World.setRow]
    rw [Array.getElem?_modify]
    split
    · exact absurd (by subst_vars; rfl) hne
    · rfl
end

theorem owni_of_blk {α : Type} {E : Enc α} {e : TypeId} {w : World} {B b n : Nat} {xs : List α} (h : Blk w b (E.flat xs) e) (hn : xs.length = n) (hm : n ≤ 9223372036854775807) (hB : B ≤ b) : Owni E e w B (some ⟨b, 0, none⟩) n n xs := by
  refine ⟨by rw [E.flat_length, hn], .inr ⟨b, n, (E.flat xs).toArray, rfl, hB, h, Nat.le_refl _, by simpa [maxLen] using hm, by simp [E.flat_length, hn], ?_⟩⟩
  rw [List.take_of_length_le (by simp [E.flat_length, hn])]
def mkB (bs : List UInt8) : ByteArray := ⟨bs.toArray⟩
theorem B_mkB (bs : List UInt8) : B (mkB bs) = bs := B_mk bs
theorem mkB_B (s : ByteArray) : mkB (B s) = s := B_inj (B_mkB _)
theorem mkB_size (bs : List UInt8) : (mkB bs).size = bs.length := by rw [B_size, B_mkB]
theorem heldAgg {w : World} {b : Nat} {x y : Value} {t : TypeId} (h : Blk w b [x, y] t) : ∀ p ∈ [((⟨b, 0, none⟩ : Addr).add 0, x), ((⟨b, 0, none⟩ : Addr).add 1, y)], w.cell? p.1 = some p.2 := by
  intro p hp
  simp only [List.mem_cons, List.not_mem_nil, or_false] at hp
  rcases hp with rfl | rfl <;> simp [add_mk, h.cell]
theorem held1F {w : World} {b o : Nat} {cs : List Value} {v : Value} {t : TypeId} (h : Blk w b cs t) (hv : cs[o]? = some v) : ∀ p ∈ [((⟨b, 0, none⟩ : Addr).add o, v)], w.cell? p.1 = some p.2 := by
  intro p hp
  obtain rfl := List.mem_singleton.1 hp
  show w.cell? ((⟨b, 0, none⟩ : Addr).add o) = _
  rw [add_mk, h.cell, Nat.zero_add, hv]
theorem held1Z {w : World} {b : Nat} {cs : List Value} {v : Value} {t : TypeId} (h : Blk w b cs t) (hv : cs[0]? = some v) : ∀ p ∈ [((⟨b, 0, none⟩ : Addr), v)], w.cell? p.1 = some p.2 := by
  intro p hp
  obtain rfl := List.mem_singleton.1 hp
  show w.cell? (⟨b, 0, none⟩ : Addr) = _
  rw [h.cell, hv]
abbrev HL (w : World) (l : List (Addr × Value)) : Prop := ∀ p ∈ l, w.cell? p.1 = some p.2
theorem h1_i {w : World} {a : List (Addr × Value)} {K : WP} (ha : HL w a) (hK : K w) : heldW [a] K w :=
  ⟨fun l hl => by rw [List.mem_singleton.1 hl]; exact ha, hK⟩
theorem h2_i {w : World} {a b : List (Addr × Value)} {K : WP} (ha : HL w a) (hb : HL w b) (hK : K w) : heldW [a, b] K w :=
  ⟨fun l hl => by
    simp only [List.mem_cons, List.not_mem_nil, or_false] at hl
    rcases hl with rfl | rfl
    · exact ha
    · exact hb, hK⟩
theorem h3_i {w : World} {a b c : List (Addr × Value)} {K : WP} (ha : HL w a) (hb : HL w b) (hc : HL w c) (hK : K w) : heldW [a, b, c] K w :=
  ⟨fun l hl => by
    simp only [List.mem_cons, List.not_mem_nil, or_false] at hl
    rcases hl with rfl | rfl | rfl
    · exact ha
    · exact hb
    · exact hc, hK⟩
theorem cellsAt_ext {w w' : World} (he : Ext w w') {a : Addr} : ∀ {vs : List Value} {i : Nat}, CellsAt w a i vs → CellsAt w' a i vs
  | [], _, _ => trivial
  | v :: r, i, h => ⟨he.cell h.1, cellsAt_ext he h.2⟩
theorem hl_cells {w : World} {a : Addr} : ∀ {vs : List Value} {i : Nat}, CellsAt w a i vs → ∀ p ∈ cellList a i vs, w.cell? p.1 = some p.2
  | [], _, _, p, hp => by cases hp
  | v :: r, i, h, p, hp => by
    rcases List.mem_cons.1 hp with rfl | hp
    · exact h.1
    · exact hl_cells h.2 p hp
theorem take_snoc {α : Type} {l : List α} {i : Nat} {p : α} (h : l[i]? = some p) : l.take (i + 1) = l.take i ++ [p] := by
  rw [List.take_add_one, h]
  rfl
theorem heldc {w : World} {a : List (Addr × Value)} {H : List (List (Addr × Value))} {K : WP} (ha : HL w a) (h : heldW H K w) : heldW (a :: H) K w :=
  ⟨fun l hl => by
    rcases List.mem_cons.1 hl with rfl | hl
    · exact ha
    · exact h.1 l hl, h.2⟩
theorem held0 {w : World} {K : WP} (h : K w) : heldW [] K w := ⟨(fun l hl => by cases hl), h⟩
theorem hlB {w : World} {b : Nat} {cs : List Value} {t : TypeId} (h : Blk w b cs t) : ∀ p ∈ cellList (⟨b, 0, none⟩ : Addr) 0 cs, w.cell? p.1 = some p.2 := hl_cells h.cellsAt
/-- Every call's world, where the contract says that it grew. -/
theorem le_k {a b : Nat} (h : Nat.ble a b = true) : a ≤ b := Nat.le_of_ble_eq_true h
end Go.Proofs.YtcjobbcijbkjkaaGreat.V

/- Contracts of the package device: Image, Pending, Geo, New, Load, Rot. -/
set_option linter.unusedVariables false
set_option linter.unusedSimpArgs false
namespace Go.Proofs.YtcjobbcijbkjkaaGreat.V
open Go Go.Proofs Go.RowKit Crc
theorem elem_strK' : ElemK Tryz.prog 45 9 (.string ByteArray.empty) strE.k 16 := ⟨by kernel_rfl, by kernel_rfl, by kernel_rfl⟩
theorem elem_strS : Elem Tryz.prog 45 9 (.string ByteArray.empty) 16 := ⟨by kernel_rfl, by kernel_rfl, by kernel_rfl⟩
theorem flat_len {n : Nat} : ∀ xs : List ByteArray, (∀ s ∈ xs, s.size = n) → (xs.flatMap B).length = xs.length * n
  | [], _ => by simp
  | a :: r, h => by
    rw [List.flatMap_cons, List.length_append, flat_len r (fun s hs => h s (List.mem_cons_of_mem _ hs)), List.length_cons, Nat.add_mul, ← B_size, h a List.mem_cons_self]
    omega
theorem Dev.Ok.dims {d : Dev} (h : d.Ok) : 128 ≤ d.size ∧ d.size ≤ 4096 ∧ d.size % 64 = 0 ∧ 8 ≤ d.blocks ∧ d.blocks ≤ 4096 ∧ d.dur.length = d.blocks.toNat := by
  have := h.geo
  unfold geoOK at this
  obtain ⟨h1, h2, h3, h4, h5⟩ := of_decide_eq_true this
  rw [Int.tmod_eq_emod_of_nonneg (by omega)] at h3
  have := h.len
  omega
theorem Dev.Ok.image {d : Dev} (h : d.Ok) : d.image.length = d.blocks.toNat * d.size.toNat := by
  have := h.dims
  unfold Dev.image
  rw [flat_len (n := d.size.toNat) d.dur (fun s hs => by have := h.each s hs; omega), h.dims.2.2.2.2.2]
theorem Dev.Ok.image_le {d : Dev} (h : d.Ok) : d.image.length ≤ 16777216 := by
  rw [h.image]
  have := h.dims
  calc d.blocks.toNat * d.size.toNat ≤ 4096 * 4096 := Nat.mul_le_mul (by omega) (by omega)
    _ = 16777216 := by decide
theorem geo_calls {w : World} {b : Nat} {d : Dev} {F : Nat → Prop} (h : DevAt w b d F) :
    Calls Tryz.prog 59 #[.pointer (some ⟨b, 0, none⟩)] w (Ret fun v w' => v = .agg #[.int .i64 d.size, .int .i64 d.blocks] ∧ Ext w w') := by
  apply calls59
  unfold S59
  refine new_i fun r1 w1 hb1 he1 hr1 hz1 => ?_
  obtain ⟨Ad, Ap, nd, cd, np, cp, t, hb, hd, hp, hF, h1, h2, h3⟩ := (h.ext he1).mem
  refine splitW_f (by rfl) (ptr_i ?_)
  refine ldA_i (ls := [.int .i64, .int .i64]) (x := (d.size, d.blocks, ())) ⟨by rw [add_mk, hb.cell]; rfl, by rw [add_mk, hb.cell]; rfl, trivial⟩ ?_
  refine refill (vs := [.int .i64 d.size, .int .i64 d.blocks]) hb1 (by rfl) (by intro v hv; simp at hv; rcases hv with rfl | rfl <;> rfl) (by rfl) ?_
  intro w2 hb2 hx2 hk2 hs2
  refine boxA (ls := [.int .i64, .int .i64]) (d.size, d.blocks, ()) hb2 rfl ?_
  exact ⟨rfl, hx2 w he1 (by omega)⟩
theorem mul_calls (w : World) (x y : Nat) (hx : x < 18446744073709551616) (hy : y < 18446744073709551616) : Calls Tryz.prog 92 #[.int .u64 x, .int .u64 y] w (Ret fun v w' => v = .tuple #[.int .u64 ((x * y / 18446744073709551616 : Nat) : Int), .int .u64 ((x * y % 18446744073709551616 : Nat) : Int)] ∧ w' = w) :=
  (Tryz.bits_Mul x y hx hy w).mono (by rintro e w' ⟨rfl, h⟩; exact ⟨rfl, h⟩)
theorem rep_step {s z : ByteArray} {n c : Nat} (hn : n ≤ c) {m : Nat} (hm : m = min n (c - n)) :
    (strE.flat (List.replicate n s ++ List.replicate (c - n) z)).take n ++ ((strE.flat (List.replicate n s)).take m) ++ (strE.flat (List.replicate n s ++ List.replicate (c - n) z)).drop (n + m) = strE.flat (List.replicate (n + m) s ++ List.replicate (c - (n + m)) z) := by
  simp only [strE_flat, List.map_append, List.map_replicate]
  rw [List.take_left' (by simp), List.drop_append, List.take_replicate, List.drop_replicate, List.drop_replicate, show min m n = m by omega, show n - (n + m) = 0 by omega, List.replicate_zero, List.nil_append, List.length_replicate,
    List.replicate_append_replicate, show c - n - (n + m - n) = c - (n + m) by omega]
theorem rep_calls {w : World} {A : Option Addr} {c k : Nat} {s : ByteArray} (h : Sli strE w A 1 [s]) (h1 : 1 ≤ k) (hk : k ≤ 1000000) :
    Calls Tryz.prog 63 #[.slice A 1 c, .int .i64 (k : Int)] w (Ret fun v w' => ∃ A', v = .slice A' k k ∧ Owni strE 9 w' w.heap.size A' k k (List.replicate k s) ∧ Ext w w') := by
  apply calls63
  unfold S63
  refine joinW_i fun J hJ => splitW_f (decide_eq_false (by omega)) (hJ () _ ?_)
  rw [wrap_u64_nat (by omega), wrap_u64_nat (by omega)]
  refine callW_of (mul_calls w 1 k (by omega) (by omega)) ?_
  rintro _ w1 ⟨rfl, hw⟩
  subst hw
  rw [Nat.one_mul, Nat.div_eq_of_lt (by omega), Nat.mod_eq_of_lt (by omega)]
  refine ⟨((0 : Nat), (k : Nat), ()), rfl, ?_⟩
  dsimp only
  refine joinW_i fun J hJ => splitW_f (by rfl) (splitW_f (decide_eq_false (by omega)) (hJ () _ ?_))
  rw [wrap_i64 (by omega) (by omega)]
  refine make_own (z := .string ByteArray.empty) elem_strS (by rfl) (Nat.le_refl _) (by omega) (by omega) ?_
  intro w2 ho2 hg2
  have he2 : Ext w1 w2 := (Ext.refl w1).none hg2
  have hb2 := own_full ho2
  have e0 : List.replicate k (Value.string ByteArray.empty) = strE.flat (List.replicate 0 s ++ List.replicate (k - 0) ByteArray.empty) := by rw [strE_flat]; simp
  dsimp only
  have hA : A ≠ none := by
    obtain ⟨a, h2, _⟩ := h.2.2 (by omega)
    rw [h2]; simp
  have hsl : Sl w2 A 1 [.string s] := by
    obtain ⟨p1, p2, p3⟩ := h.ext he2
    exact ⟨rfl, by omega, fun hn => by obtain ⟨a, q1, _, q2⟩ := p3 hn; exact ⟨a, q1, q2⟩⟩
  refine copy_sl (o := 0) (n := k) elem_strS hb2 hsl (by intro y hy; simp at hy; subst hy; rfl) (by simp; omega) hA ?_
  intro w3 hb3 hg3
  have he3 : Ext w1 w3 := he2.grown hg3 (fun j hj => by injection hj with hj; omega)
  rw [show min 1 k = 1 by omega] at hb3 ⊢
  have hb3 : Blk w3 w1.heap.size (strE.flat (List.replicate 1 s ++ List.replicate (k - 1) ByteArray.empty)) 9 := by
    have e : List.take 0 (List.replicate k (Value.string ByteArray.empty)) ++ List.take 1 [Value.string s] ++ List.drop (0 + 1) (List.replicate k (Value.string ByteArray.empty)) = strE.flat (List.replicate 1 s ++ List.replicate (k - 1) ByteArray.empty) := by
      rw [strE_flat]; simp
    rw [← e]; exact hb3
  refine loopW_i (fun y w' => ∃ i : Nat, 1 ≤ i ∧ i ≤ k ∧ y = ((i : Int), ()) ∧ Blk w' w1.heap.size (strE.flat (List.replicate i s ++ List.replicate (k - i) ByteArray.empty)) 9 ∧ Ext w1 w') (fun y => (k - y.1).toNat) ⟨1, by omega, h1, rfl, hb3, he3⟩ ?_
  rintro _ w4 ⟨i, hi1, hi, rfl, hb4, he4⟩
  dsimp only
  by_cases hlt : i < k
  · refine splitW_t (decide_eq_true (by omega)) ?_
    refine draw_i fun w5 he5 _ _ => ?_
    have hb5 := hb4.ext he5
    refine guard_i (by omega) (guard_i (by omega) ?_)
    rw [Int.toNat_natCast]
    have hcut : cutAddr (some (⟨w1.heap.size, 0, none⟩ : Addr)) i k 1 = some ⟨w1.heap.size, i, none⟩ := by
      unfold cutAddr
      rw [if_neg (by omega)]
      simp [add_mk]
    have hcut0 : cutAddr (some (⟨w1.heap.size, 0, none⟩ : Addr)) 0 k 1 = some ⟨w1.heap.size, 0, none⟩ := by
      unfold cutAddr
      rw [if_neg (by omega)]
      simp [add_mk]
    rw [hcut, hcut0]
    have hsl5 : Sl w5 (some ⟨w1.heap.size, 0, none⟩) i (strE.flat (List.replicate i s)) := by
      refine ⟨by rw [strE_flat]; simp, by omega, fun _ => ⟨_, rfl, fun j v hj => ?_⟩⟩
      rw [add_mk, hb5.cell, Nat.zero_add, strE_flat, List.map_append, List.getElem?_append_left (by rw [strE_flat] at hj; exact (List.getElem?_eq_some_iff.1 hj).1), ← strE_flat]
      exact hj
    refine copy_sl (n := k - i) elem_strS hb5 hsl5 (strE.flat_one _) (by rw [strE_flat]; simp; omega) (by simp) ?_
    intro w6 hb6 hg6
    rw [rep_step (by omega) rfl] at hb6
    refine ⟨⟨i + min i (k - i), by omega, by omega, by rw [wrap_i64 (by omega) (by omega)]; simp, hb6, (he4.trans he5).grown hg6 (fun j hj => by injection hj with hj; omega)⟩, by rw [wrap_i64 (by omega) (by omega)]; omega⟩
  · obtain rfl : i = k := by omega
    refine splitW_f (decide_eq_false (by omega)) ?_
    refine ⟨_, rfl, owni_of_blk ?_ (by simp) (by omega) (Nat.le_refl _), he4⟩
    simpa using hb4
end Go.Proofs.YtcjobbcijbkjkaaGreat.V

/- Contracts of the package device: New, Load, Rot. -/
set_option linter.unusedVariables false
set_option linter.unusedSimpArgs false
namespace Go.Proofs.YtcjobbcijbkjkaaGreat.V
open Go Go.Proofs Go.RowKit Crc

def zeroB (n : Nat) : ByteArray := mkB (List.replicate n 0)
theorem zeroB_size (n : Nat) : (zeroB n).size = n := by rw [zeroB, mkB_size]; simp
def dev0 (size blocks : Int) : Dev := ⟨size, blocks, List.replicate blocks.toNat (zeroB size.toNat), [], 0, -1⟩
theorem geo_dims {size blocks : Int} (h : geoOK size blocks = true) : 128 ≤ size ∧ size ≤ 4096 ∧ size % 64 = 0 ∧ 8 ≤ blocks ∧ blocks ≤ 4096 := by
  unfold geoOK at h
  obtain ⟨h1, h2, h3, h4, h5⟩ := of_decide_eq_true h
  rw [Int.tmod_eq_emod_of_nonneg (by omega)] at h3
  omega
theorem dev0_ok {size blocks : Int} (h : geoOK size blocks = true) : (dev0 size blocks).Ok := by
  have := geo_dims h
  refine ⟨h, ?_, ?_, (fun p hp => by cases hp), (by show (-1 : Int) ≤ -1; omega), (by show (-1 : Int) < 9223372036854775808; omega)⟩
  · show ((List.replicate blocks.toNat (zeroB size.toNat)).length : Int) = blocks
    rw [List.length_replicate]; omega
  · intro s hs
    rw [(List.mem_replicate.1 hs).2, zeroB_size]
    show ((size.toNat : Nat) : Int) = size
    omega
/-- A new device. -/
def DevNew (w : World) (d : Dev) (b : Nat) (w' : World) : Prop := ∃ F : Nat → Prop, DevAt w' b d F ∧ (∀ k, F k → w.heap.size ≤ k) ∧ Ext w w'
theorem DevNew.pre {w0 w w' : World} {d : Dev} {b : Nat} (h : DevNew w d b w') (he : Ext w0 w) : DevNew w0 d b w' := by
  obtain ⟨F, h1, h2, h3⟩ := h
  exact ⟨F, h1, fun k hk => Nat.le_trans he.size (h2 k hk), he.trans h3⟩
theorem devAt_new {w : World} {b nd cd : Nat} {Ad : Option Addr} {t : TypeId} {d : Dev} (hb : Blk w b [.int .i64 d.size, .int .i64 d.blocks, .slice Ad nd cd, .slice none 0 0, .int .i64 d.ops, .int .i64 d.fuse] t)
    (hd : Owni strE 9 w 0 Ad nd cd d.dur) (hp : d.pen = []) (hne : orow Ad ≠ some b) (hok : d.Ok) : DevAt w b d (fun k => k = b ∨ orow Ad = some k ∨ orow none = some k) := by
  refine ⟨⟨Ad, none, nd, cd, 0, 0, t, hb, hd, ?_, fun k => Iff.rfl, hne, (fun e => by cases e), (fun j hj e => by cases e)⟩, hok⟩
  rw [hp]
  exact Owni.nil _ _ _
theorem repeat1 (n : Nat) : Lib.repeatL [0] n = List.replicate n (0 : UInt8) := by
  induction n with
  | zero => rfl
  | succ n ih => rw [Lib.repeatL, ih, List.replicate_succ]; rfl
theorem dnew_calls (w : World) (size blocks : Int) :
    Calls Tryz.prog 29 #[.agg #[.int .i64 size, .int .i64 blocks]] w (Ret fun v w' => (geoOK size blocks = true ∧ ∃ b, v = .tuple #[.pointer (some ⟨b, 0, none⟩), .int .i64 0] ∧ DevNew w (dev0 size blocks) b w') ∨ (geoOK size blocks = false ∧ v = .tuple #[.pointer none, .int .i64 2] ∧ Ext w w')) := by
  apply calls29
  unfold S29
  refine new_i fun r1 w1 hb1 he1 hr1 hz1 => ?_
  have hb1 : Blk w1 r1 [.int .i64 size, .int .i64 blocks] 28 := hb1
  refine boxA (ls := [.int .i64, .int .i64]) (size, blocks, ()) hb1 rfl ?_
  refine callW_of (devcheck_calls w1 size blocks) ?_
  rintro _ w2 ⟨rfl, he2⟩
  refine ⟨_, rfl, ?_⟩
  have hb2 := hb1.ext he2
  cases hok : geoOK size blocks with
  | false => exact splitW_t (by rfl) (.inr ⟨rfl, rfl, he1.trans he2⟩)
  | true =>
    have hg := geo_dims hok
    refine splitW_f (by rfl) ?_
    refine draw_i fun w3 he3 _ _ => ?_
    have hb3 := hb2.ext he3
    refine boxA (ls := [.int .i64, .int .i64]) (size, blocks, ()) hb3 rfl ?_
    refine box0 size hb3 (by rfl) (boxF 1 blocks hb3 (by rfl) ?_)
    have hr := Tryz.strings_Repeat (ByteArray.mk #[0]) size.toNat w3 (by omega) (by show 1 * size.toNat ≤ _; omega)
    rw [Int.toNat_of_nonneg (by omega), show (ByteArray.mk #[0]).data.toList = [0] from rfl, repeat1] at hr
    refine callW_of (R := fun v w' => v = .string (zeroB size.toNat) ∧ Ext w3 w') (hr.mono (by rintro e w' ⟨rfl, h⟩; exact ⟨rfl, h⟩)) ?_
    rintro _ w4 ⟨rfl, he4⟩
    refine ⟨_, rfl, ?_⟩
    have hb4 := hb3.ext he4
    refine h2_i (held1F hb4 (by rfl)) (heldAgg hb4) ?_
    refine new_i fun r8 w5 hb8 he5 hr8 hz8 => ?_
    have hb5 := hb4.ext he5
    refine h2_i (held1F hb5 (by rfl)) (heldAgg hb5) ?_
    have hs8 : Sli strE w5 (some ⟨r8, 0, none⟩) 1 [zeroB size.toNat] := Sli.of_blk (E := strE) (xs := [zeroB size.toNat]) hb8 rfl (by omega)
    have hrep := rep_calls (c := 1) (k := blocks.toNat) hs8 (by omega) (by omega)
    rw [Int.toNat_of_nonneg (by omega)] at hrep
    refine callW_of hrep ?_
    rintro _ w6 ⟨A, rfl, ho, he6⟩
    refine ⟨(A, _, _), rfl, ?_⟩
    have hb6 := hb5.ext he6
    refine h1_i (heldAgg hb6) ?_
    refine new_i fun r10 w7 hb10 he7 hr10 hz10 => ?_
    have hb10 : Blk w7 r10 [.int .i64 size, .int .i64 blocks, .slice A blocks.toNat blocks.toNat, .slice none 0 0, .int .i64 0, .int .i64 (-1)] 118 := hb10
    have hall := ((((((he1.trans he2).trans he3).trans he4).trans he5).trans he6).trans he7)
    have hpre := (((((he1.trans he2).trans he3).trans he4).trans he5))
    have hlt : ∀ j, orow A = some j → j < w6.heap.size := ho.row_lt
    refine .inl ⟨rfl, r10, rfl, _, devAt_new (d := dev0 size blocks) hb10 ((ho.ext he7).lower (Nat.zero_le _)) rfl (fun e => by have := hlt _ e; omega) (dev0_ok hok), ?_, hall⟩
    rintro k (rfl | hk | hk)
    · have := (hpre.trans he6).size; omega
    · have := ho.row k hk
      have := hpre.size
      omega
    · cases hk
/-- Bytes in cuts. -/
def cutB (s : ByteArray) (z n : Nat) : List ByteArray := (List.range n).map fun i => s.extract (i * z) ((i + 1) * z)
theorem cutB_length (s : ByteArray) (z n : Nat) : (cutB s z n).length = n := by simp [cutB]
theorem cutB_succ (s : ByteArray) (z n : Nat) : cutB s z (n + 1) = cutB s z n ++ [s.extract (n * z) ((n + 1) * z)] := by simp [cutB, List.range_succ]
theorem cutB_flat (s : ByteArray) (z : Nat) : ∀ n, (cutB s z n).flatMap B = (B s).take (n * z)
  | 0 => by simp [cutB]
  | n + 1 => by
    rw [cutB_succ, List.flatMap_append, cutB_flat s z n, List.flatMap_singleton, B_extract, Nat.add_mul, Nat.one_mul, Nat.add_sub_cancel_left, ← List.take_add]
theorem cutB_size {s : ByteArray} {z n : Nat} (h : n * z ≤ s.size) : ∀ x ∈ cutB s z n, x.size = z := by
  intro x hx
  obtain ⟨i, hi, rfl⟩ := List.mem_map.1 hx
  have hi := List.mem_range.1 hi
  have h1 : (i + 1) * z ≤ n * z := Nat.mul_le_mul_right _ hi
  rw [B_size, B_extract, List.length_take, List.length_drop, ← B_size]
  rw [Nat.add_mul, Nat.one_mul] at h1 ⊢
  omega
def devLoad (size blocks : Int) (s : ByteArray) : Dev := ⟨size, blocks, cutB s size.toNat blocks.toNat, [], 0, -1⟩
theorem devLoad_ok {size blocks : Int} {s : ByteArray} (h : geoOK size blocks = true) (hs : s.size = blocks.toNat * size.toNat) : (devLoad size blocks s).Ok := by
  have := geo_dims h
  refine ⟨h, ?_, ?_, (fun p hp => by cases hp), (by show (-1 : Int) ≤ -1; omega), (by show (-1 : Int) < 9223372036854775808; omega)⟩
  · show ((cutB s size.toNat blocks.toNat).length : Int) = blocks
    rw [cutB_length]; omega
  · intro x hx
    rw [cutB_size (by omega) x hx]
    show ((size.toNat : Nat) : Int) = size
    omega
theorem devLoad_image {size blocks : Int} {s : ByteArray} (hs : s.size = blocks.toNat * size.toNat) : (devLoad size blocks s).image = B s := by
  show (cutB s size.toNat blocks.toNat).flatMap B = _
  rw [cutB_flat, ← hs, B_size, List.take_length]
end Go.Proofs.YtcjobbcijbkjkaaGreat.V

/- Frames: plain, and the contracts of the package frame. -/
set_option linter.unusedVariables false
set_option linter.unusedSimpArgs false
namespace Go.Proofs.YtcjobbcijbkjkaaGreat.V
open Go Go.Proofs Go.RowKit Crc

/-! ### Plain -/
/-- A frame: tag, generation, data. -/
abbrev Fra := UInt8 × Nat × ByteArray
def fra0 : Fra := (0, 0, ByteArray.empty)
def fT (f : Fra) : Int × Int × ByteArray × Unit := ((f.1.toNat : Int), (f.2.1 : Int), f.2.2, ())
def fV (f : Fra) : List Value := [.int .u8 (f.1.toNat : Int), .int .u64 (f.2.1 : Int), .string f.2.2]
theorem fV_one (f : Fra) : ∀ v ∈ fV f, v.oneCell' = true := by
  intro v hv
  simp only [fV, List.mem_cons, List.not_mem_nil, or_false] at hv
  rcases hv with rfl | rfl | rfl <;> rfl
def headB (f : Fra) : List UInt8 := [f.1, 0] ++ le 2 (B f.2.2).length ++ le 8 f.2.1
def bodyB (size : Nat) (f : Fra) : List UInt8 := headB f ++ B f.2.2 ++ List.replicate (size - 16 - (B f.2.2).length) 0
def putB (size : Nat) (f : Fra) : List UInt8 := bodyB size f ++ le 4 (crc (bodyB size f)).toNat
def putR (size : Int) (f : Fra) : List UInt8 × Int := if roomOf size = 0 then ([], 2) else if ((B f.2.2).length : Int) > roomOf size then ([], 3) else (putB size.toNat f, 0)
def frameB (bs : List UInt8) : Fra := (bs.getD 0 0, lev ((bs.drop 4).take 8), ⟨((bs.drop 12).take (lev ((bs.drop 2).take 2))).toArray⟩)
def getR (bs : List UInt8) : Fra × Int :=
  if roomOf bs.length = 0 then (fra0, 2)
  else if (crc (bs.take (bs.length - 4))).toNat ≠ lev (bs.drop (bs.length - 4)) then (fra0, 10)
  else if (lev ((bs.drop 2).take 2) : Int) > roomOf bs.length then (fra0, 4)
  else if putR bs.length (frameB bs) = (bs, 0) then (frameB bs, 0) else (fra0, 4)
def kindR (bs : List UInt8) (tag : UInt8) : Fra × Int := if (getR bs).2 = 0 ∧ (getR bs).1.1 ≠ tag then (fra0, 11) else getR bs
theorem headB_length (f : Fra) : (headB f).length = 12 := by simp [headB, le_length]
theorem bodyB_length {size : Nat} {f : Fra} (h : (B f.2.2).length + 16 ≤ size) : (bodyB size f).length = size - 4 := by
  simp only [bodyB, List.length_append, headB_length, List.length_replicate]; omega
theorem putB_length {size : Nat} {f : Fra} (h : (B f.2.2).length + 16 ≤ size) : (putB size f).length = size := by
  simp only [putB, List.length_append, bodyB_length h, le_length]; omega
theorem roomOf_cases (size : Int) : roomOf size = 0 ∨ (roomOf size = size - 16 ∧ 128 ≤ size ∧ size ≤ 4096 ∧ geoOK size 8 = true) := by
  unfold roomOf
  cases h : geoOK size 8 with
  | false => left; rfl
  | true =>
    right
    have h2 := h
    unfold geoOK at h2
    have h2 := of_decide_eq_true h2
    exact ⟨rfl, by omega, by omega, rfl⟩
theorem putR_ok {size : Int} {f : Fra} (h : (putR size f).2 = 0) : roomOf size = size - 16 ∧ 128 ≤ size ∧ size ≤ 4096 ∧ (B f.2.2).length + 16 ≤ size.toNat ∧ (putR size f).1 = putB size.toNat f := by
  unfold putR at h ⊢
  rcases roomOf_cases size with h0 | ⟨h0, h1, h2, _⟩
  · rw [if_pos h0] at h; cases h
  · rw [if_neg (by omega)] at h ⊢
    split at h
    · cases h
    · rename_i hr
      rw [if_neg hr]
      exact ⟨h0, h1, h2, by omega, rfl⟩
theorem lev_le2 {n : Nat} (h : n < 65536) : lev (le 2 n) = n := by rw [lev_le]; omega
theorem lev_le8 {n : Nat} (h : n < 18446744073709551616) : lev (le 8 n) = n := by rw [lev_le]; omega
/-- What is put is got. -/
theorem getR_putB {size : Nat} {f : Fra} (hr : roomOf size = (size : Int) - 16) (h1 : 128 ≤ size) (h2 : size ≤ 4096) (hd : (B f.2.2).length + 16 ≤ size) (hg : f.2.1 < 18446744073709551616) : getR (putB size f) = (f, 0) := by
  have hlen := putB_length hd
  have hbl := bodyB_length hd
  have hlt := (crc (bodyB size f)).isLt
  have e1 : (putB size f).take (size - 4) = bodyB size f := by unfold putB; rw [List.take_left' hbl]
  have e2 : (putB size f).drop (size - 4) = le 4 (crc (bodyB size f)).toNat := by unfold putB; rw [List.drop_left' hbl]
  have e3 : lev (le 4 (crc (bodyB size f)).toNat) = (crc (bodyB size f)).toNat := by rw [lev_le]; omega
  have epre : putB size f = [f.1, 0] ++ (le 2 (B f.2.2).length ++ (le 8 f.2.1 ++ (B f.2.2 ++ (List.replicate (size - 16 - (B f.2.2).length) 0 ++ le 4 (crc (bodyB size f)).toNat)))) := by
    simp [putB, bodyB, headB]
  have e4 : ((putB size f).drop 2).take 2 = le 2 (B f.2.2).length := by
    rw [epre, List.drop_left' (i := 2) (l₁ := [f.1, 0]) (show [f.1, 0].length = 2 from rfl), List.take_left' (le_length _ _)]
  have e5 : ((putB size f).drop 4).take 8 = le 8 f.2.1 := by
    rw [epre, ← List.append_assoc, List.drop_left' (by simp [le_length]), List.take_left' (le_length _ _)]
  have e6 : ((putB size f).drop 12).take (B f.2.2).length = B f.2.2 := by
    rw [epre, ← List.append_assoc, ← List.append_assoc, List.drop_left' (by simp [le_length]), List.take_left' rfl]
  have e7 : (putB size f).getD 0 0 = f.1 := by rw [epre]; rfl
  have e8 : lev (((putB size f).drop 2).take 2) = (B f.2.2).length := by rw [e4]; exact lev_le2 (by omega)
  have ef : frameB (putB size f) = f := by
    unfold frameB
    rw [e8, e6, e7, e5, lev_le8 hg]
    rfl
  unfold getR
  rw [hlen, e1, e2, e3, e8, ef, if_neg (by omega), if_neg (by simp), if_neg (by omega)]
  have : putR size f = (putB size f, 0) := by
    unfold putR
    rw [if_neg (by omega), if_neg (by omega), Int.toNat_natCast]
  rw [if_pos this]
theorem getR_ok {bs : List UInt8} (h : (getR bs).2 = 0) : (getR bs).1 = frameB bs ∧ putR bs.length (frameB bs) = (bs, 0) := by
  unfold getR at h ⊢
  split at h
  · cases h
  · split at h
    · cases h
    · split at h
      · cases h
      · split at h
        · rename_i h1 h2 h3 h4
          rw [if_neg h1, if_neg h2, if_neg h3, if_pos h4]
          exact ⟨rfl, h4⟩
        · cases h
theorem getR_bad {bs : List UInt8} (h : (getR bs).2 ≠ 0) : (getR bs).1 = fra0 := by
  unfold getR at h ⊢
  split
  · rfl
  · split
    · rfl
    · split
      · rfl
      · split
        · rename_i h1 h2 h3 h4
          rw [if_neg h1, if_neg h2, if_neg h3, if_pos h4] at h
          exact absurd rfl h
        · rfl
theorem frameB_gen (bs : List UInt8) : (frameB bs).2.1 < 18446744073709551616 := by
  have h := lev_lt ((bs.drop 4).take 8)
  have h2 : ((bs.drop 4).take 8).length ≤ 8 := by simp; omega
  have : 256 ^ ((bs.drop 4).take 8).length ≤ 256 ^ 8 := Nat.pow_le_pow_right (by omega) h2
  unfold frameB
  dsimp only
  omega
theorem getR_gen (bs : List UInt8) : (getR bs).1.2.1 < 18446744073709551616 := by
  by_cases h : (getR bs).2 = 0
  · rw [(getR_ok h).1]; exact frameB_gen bs
  · rw [getR_bad h]; decide
def fraEq (a b : Fra) : Bool := ((a.1.toNat : Int) == (b.1.toNat : Int)) && (((a.2.1 : Int) == (b.2.1 : Int)) && (decide (B a.2.2 = B b.2.2) && true))
theorem fraEq_iff {a b : Fra} : fraEq a b = true ↔ a = b := by
  unfold fraEq
  simp only [Bool.and_eq_true, decide_eq_true_eq, beq_iff_eq, and_true]
  constructor
  · rintro ⟨h1, h2, h3⟩
    exact Prod.ext (UInt8.toNat_inj.1 (by omega)) (Prod.ext (by omega) (B_inj h3))
  · rintro rfl
    exact ⟨rfl, rfl, rfl⟩
theorem fields_fra (w : World) (a b : Fra) : (Op.eqFields 9999 (fV a).toArray (fV b).toArray (Tryz.prog.fieldsOf 91).toList).run Tryz.prog w = .ok (fraEq a b) w := by
  have hf : (Tryz.prog.fieldsOf 91).toList = [(Tryz.prog.fieldsOf 91).getD 0 default, (Tryz.prog.fieldsOf 91).getD 1 default, (Tryz.prog.fieldsOf 91).getD 2 default] := by kernel_rfl
  rw [hf]
  unfold fraEq
  rw [← str_beq]
  refine eqFields_step (of_decide_eq_true (by kernel_rfl)) (a := .int .u8 (a.1.toNat : Int)) (b := .int .u8 (b.1.toNat : Int)) (by kernel_rfl) (by kernel_rfl) (run_equalIn_int w 9998 _ .u8 .u8 _ _ (by kernel_rfl)) ?_
  refine eqFields_step (of_decide_eq_true (by kernel_rfl)) (a := .int .u64 (a.2.1 : Int)) (b := .int .u64 (b.2.1 : Int)) (by kernel_rfl) (by kernel_rfl) (run_equalIn_int w 9998 _ .u64 .u64 _ _ (by kernel_rfl)) ?_
  refine eqFields_step (of_decide_eq_true (by kernel_rfl)) (a := .string a.2.2) (b := .string b.2.2) (by kernel_rfl) (by kernel_rfl) (run_equalIn_string w 9998 _ _ _ (by kernel_rfl)) ?_
  rfl
theorem neq_fra (w : World) (a b : Fra) (x y : Operand) : (eqS .neq 91 x y (.agg (fV a).toArray) (.agg (fV b).toArray)).run Tryz.prog w = .ok (.bool (!(fraEq a b))) w :=
  eqS_neq (by kernel_rfl) (by kernel_rfl) (by kernel_rfl) (fields_fra w a b)
theorem eql_fra (w : World) (a b : Fra) (x y : Operand) : (eqS .eql 91 x y (.agg (fV a).toArray) (.agg (fV b).toArray)).run Tryz.prog w = .ok (.bool (fraEq a b)) w :=
  eqS_eql (by kernel_rfl) (by kernel_rfl) (by kernel_rfl) (fields_fra w a b)
/-- octet.Put, where there is room. -/
theorem putfit_calls {w : World} {b o n c v k : Nat} {cs : List Value} {t : TypeId} (hb : Blk w b cs t) (ho : o + c ≤ cs.length) (hn : n + k ≤ c) (hc : c ≤ 9223372036854775000) (hv : v < 18446744073709551616) (hk1 : 1 ≤ k) (hk : k ≤ 8) :
    Calls Tryz.prog 32 #[.slice (some ⟨b, o, none⟩) n c, .int .u64 (v : Int), .int .i64 (k : Int)] w (Ret fun r w' => r = .slice (some ⟨b, o, none⟩) (n + k) c ∧ Blk w' b (cs.take (o + n) ++ bV (le k v) ++ cs.drop (o + n + k)) t ∧ w.grownBy w' (some b)) := by
  apply calls32
  unfold S32
  refine splitW_f (decide_eq_false (by omega)) ?_
  refine splitW_f (decide_eq_false (by omega)) ?_
  refine loopW_i (fun x w' => ∃ i : Nat, i ≤ k ∧ x = ((some ⟨b, o, none⟩, n + i, c), (i : Int), ()) ∧ Blk w' b (cs.take (o + n) ++ bV (le i v) ++ cs.drop (o + n + i)) t ∧ w.grownBy w' (some b)) (fun x => (k - x.2.1).toNat)
    ⟨0, by omega, rfl, by simpa [le, bV] using hb, grownBy_refl _ _⟩ ?_
  rintro _ w' ⟨i, hi, rfl, hbi, hg⟩
  dsimp only
  have hlen : (cs.take (o + n) ++ bV (le i v) ++ cs.drop (o + n + i)).length = cs.length := by
    simp only [List.length_append, List.length_take, List.length_drop, length_bV, le_length]
    omega
  by_cases hlt : i < k
  · refine splitW_t (decide_eq_true (by omega)) ?_
    have e1 : IntKind.wrap .i64 ((8 : Int) * (i : Int)) = ((8 * i : Nat) : Int) := by
      rw [wrap_i64 (by omega) (by omega)]
      omega
    rw [e1]
    refine ⟨by omega, ?_⟩
    rw [ishr_nat .u64 v (8 * i) (by simp [IntKind.bits]; omega), wrap_u8_nat, Nat.pow_mul, show (2 : Nat) ^ 8 = 256 from rfl]
    refine append_newfit (ys := bV [UInt8.ofNat (v / 256 ^ i)]) elem_u8 hbi (by omega) (by simp [bV]; omega) (by omega) (bV_one _) ?_
    intro w2 hb2 hg2
    refine ⟨⟨i + 1, by omega, ?_, ?_, grownBy_tr hg hg2 (fun j hj => .inl hj)⟩, ?_⟩
    · rw [wrap_i64 (by omega) (by omega)]; rfl
    · have hpl : (cs.take (o + n) ++ bV (le i v)).length = o + (n + i) := by
        simp only [List.length_append, List.length_take, length_bV, le_length]; omega
      have e2 : (cs.take (o + n) ++ bV (le i v) ++ cs.drop (o + n + i)).take (o + (n + i)) = cs.take (o + n) ++ bV (le i v) := List.take_left' hpl
      have e3 : (cs.take (o + n) ++ bV (le i v) ++ cs.drop (o + n + i)).drop (o + (n + i) + (bV [UInt8.ofNat (v / 256 ^ i)]).length) = cs.drop (o + n + (i + 1)) := by
        rw [← List.drop_drop, List.drop_left' hpl, List.drop_drop]
        rfl
      rw [e2, e3] at hb2
      rw [le_succ, bV_append, ← List.append_assoc]
      exact hb2
    · rw [wrap_i64 (by omega) (by omega)]; omega
  · obtain rfl : i = k := by omega
    refine splitW_f (decide_eq_false (by omega)) ?_
    exact ⟨rfl, hbi, hg⟩
theorem fput_calls (w : World) (size : Int) {f : Fra} (hg : f.2.1 < 18446744073709551616) : Calls Tryz.prog 76 #[.int .i64 size, .agg (fV f).toArray] w (Ret fun v w' => v = .tuple #[.string ⟨(putR size f).1.toArray⟩, .int .i64 (putR size f).2] ∧ Ext w w') := by
  apply calls76
  unfold S76 putR
  refine new_i fun r1 w1 hb1 he1 hr1 _ => ?_
  refine callW_of (room_calls w1 size) ?_
  rintro _ w2 ⟨rfl, he2⟩
  refine ⟨_, rfl, ?_⟩
  have he2 := he1.trans he2
  have hb1 := hb1.ext (by assumption)
  have hds := B_size f.2.2
  rcases roomOf_cases size with h0 | ⟨h0, h1, h2, hgeo⟩
  · rw [h0, if_pos rfl]
    exact splitW_t (by rfl) ⟨rfl, he2⟩
  rw [if_neg (by omega)]
  refine splitW_f (by rw [beq_eq_false_iff_ne]; omega) ?_
  refine boxF 2 f.2.2 hb1 (by rfl) ?_
  refine splitW_i (fun hlong => ?_) (fun hfit => ?_)
  · have hlong := of_decide_eq_true hlong
    rw [if_pos (by omega)]
    exact ⟨rfl, he2⟩
  have hfit := of_decide_eq_false hfit
  rw [if_neg (by omega)]
  obtain ⟨sz, rfl⟩ : ∃ sz : Nat, size = sz := ⟨size.toNat, by omega⟩
  rw [Int.toNat_natCast]
  generalize hd : (B f.2.2).length = d at *
  refine make_own (B := w2.heap.size) elem_u8 rfl (Nat.le_refl _) (by omega) (by omega) ?_
  intro w3 ho3 hg3
  have hrow : Blk w3 w2.heap.size (List.replicate sz (.int .u8 0)) 5 := own_full ho3
  have he3 : Ext w w3 := he2.none hg3
  have h23 : Ext w2 w3 := (Ext.refl w2).none hg3
  have hb1 := hb1.ext h23
  have hsz := he2.size
  have hr1lt := he1.size
  have hw1 : r1 < w2.heap.size := by have := (hb1).lt; have := he2.size; have hh : w1.heap.size ≤ w2.heap.size := (by assumption : Ext w1 w2).size; omega
  generalize hbb : w2.heap.size = b at *
  have ez : (List.replicate sz (Value.int .u8 0)) = bV (List.replicate sz 0) := by simp [bV]
  rw [ez] at hrow
  refine draw_i fun w4 he4 _ _ => ?_
  have hrow := hrow.ext he4
  have hb1 := hb1.ext he4
  have he4 := he3.trans he4
  refine guard_i ⟨by omega, by omega, by dsimp only; omega⟩ ?_
  refine box0 (f.1.toNat : Int) hb1 (by rfl) ?_
  have hcut : cutAddr (some (⟨b, 0, none⟩ : Addr)) 0 (Int.toNat 12) 1 = some ⟨b, 0, none⟩ := rfl
  dsimp only
  rw [hcut, show Int.toNat 0 = 0 from rfl, show Int.toNat 12 = 12 from rfl]
  have e0 : #[Value.int .u8 (f.1.toNat : Int), Value.int .u8 0] = (bV [f.1, 0]).toArray := rfl
  rw [e0]
  have grow : ∀ {w' w'' : World}, Ext w w' → w'.grownBy w'' (some b) → Ext w w'' := fun he hg => he.grown hg (fun j hj => by injection hj with hj; omega)
  have keep : ∀ {w' w'' : World} {cs : List Value} {t : TypeId}, Blk w' r1 cs t → w'.grownBy w'' (some b) → Blk w'' r1 cs t := fun h hg => h.grown hg (by simp; omega)
  have hrl : ∀ k : Nat, (bV (List.replicate k (0 : UInt8))).length = k := fun k => by rw [length_bV, List.length_replicate]
  refine append_newfit (ys := bV [f.1, 0]) (n := 0) (c := 12) elem_u8 hrow (by rw [hrl]; omega) (by simp [bV]) (by omega) (bV_one _) ?_
  intro w5 hrow5 hg5
  have he5 := grow he4 hg5
  have hb1 := keep hb1 hg5
  have s5 : (bV (List.replicate sz (0 : UInt8))).take (0 + 0) ++ bV [f.1, 0] ++ (bV (List.replicate sz (0 : UInt8))).drop (0 + 0 + (bV [f.1, 0]).length) = bV ([f.1, 0] ++ List.replicate (sz - 2) 0) := by
    rw [bV_append]
    simp [bV]
  rw [s5] at hrow5
  dsimp only
  refine boxF 2 f.2.2 hb1 (by rfl) ?_
  rw [hds, wrap_u64_nat (by omega)]
  refine callW_of (putfit_calls (o := 0) (n := 0 + (bV [f.1, 0]).length) (c := 12) (k := 2) hrow5 (by rw [length_bV]; simp; omega) (by simp [bV]) (by omega) (by omega) (by omega) (by omega)) ?_
  rintro _ w6 ⟨rfl, hrow6, hg6⟩
  refine ⟨(some ⟨b, 0, none⟩, 0 + (bV [f.1, 0]).length + 2, 12), rfl, ?_⟩
  have he6 := grow he5 hg6
  have hb1 := keep hb1 hg6
  have s6 : (bV ([f.1, 0] ++ List.replicate (sz - 2) 0)).take (0 + (0 + (bV [f.1, 0]).length)) ++ bV (le 2 d) ++ (bV ([f.1, 0] ++ List.replicate (sz - 2) 0)).drop (0 + (0 + (bV [f.1, 0]).length) + 2) = bV (([f.1, 0] ++ le 2 d) ++ List.replicate (sz - 2 - 2) 0) := by
    have := put_at [f.1, 0] (le 2 d) (sz - 2) (by rw [le_length]; omega)
    rw [le_length] at this
    rw [bV_take, bV_drop, ← bV_append, ← bV_append]
    exact congrArg bV this
  rw [s6] at hrow6
  dsimp only
  refine boxF 1 (f.2.1 : Int) hb1 (by rfl) ?_
  refine callW_of (putfit_calls (o := 0) (c := 12) (k := 8) hrow6 (by rw [length_bV]; simp [le_length]; omega) (by simp [bV]) (by omega) hg (by omega) (by omega)) ?_
  rintro _ w7 ⟨rfl, hrow7, hg7⟩
  refine ⟨(some ⟨b, 0, none⟩, 0 + (bV [f.1, 0]).length + 2 + 8, 12), rfl, ?_⟩
  have he7 := grow he6 hg7
  have hb1 := keep hb1 hg7
  have s7 : (bV (([f.1, 0] ++ le 2 d) ++ List.replicate (sz - 2 - 2) 0)).take (0 + (0 + (bV [f.1, 0]).length + 2)) ++ bV (le 8 f.2.1) ++ (bV (([f.1, 0] ++ le 2 d) ++ List.replicate (sz - 2 - 2) 0)).drop (0 + (0 + (bV [f.1, 0]).length + 2) + 8) = bV (headB f ++ List.replicate (sz - 12) 0) := by
    have := put_at ([f.1, 0] ++ le 2 d) (le 8 f.2.1) (sz - 2 - 2) (by rw [le_length]; omega)
    rw [le_length] at this
    have hh : headB f = [f.1, 0] ++ le 2 d ++ le 8 f.2.1 := by unfold headB; rw [hd]
    have hl4 : ([f.1, 0] ++ le 2 d).length = 4 := by simp [le_length]
    rw [hl4] at this
    rw [hh, show sz - 12 = sz - 2 - 2 - 8 by omega, ← this, bV_take, bV_drop, ← bV_append, ← bV_append]
    rfl
  rw [s7] at hrow7
  refine draw_i fun w8 he8 _ _ => ?_
  have hrow8 := hrow7.ext he8
  have hb1 := hb1.ext he8
  have he8 := he7.trans he8
  refine guard_i ⟨by omega, by omega⟩ ?_
  refine boxF 2 f.2.2 hb1 (by rfl) ?_
  have hcut2 : cutAddr (some (⟨b, 0, none⟩ : Addr)) 12 sz 1 = some ⟨b, 12, none⟩ := by
    unfold cutAddr
    rw [if_neg (by show ¬ sz = 12; omega)]
    show some ((⟨b, 0, none⟩ : Addr).add 12) = _
    rw [add_mk, Nat.zero_add]
  rw [hcut2]
  refine copy_str elem_u8 hrow8 (by rw [length_bV, List.length_append, headB_length, List.length_replicate]; omega) ?_
  intro w9 hrow9 hg9
  have he9 := grow he8 hg9
  have s9 : (bV (headB f ++ List.replicate (sz - 12) 0)).take 12 ++ bV ((B f.2.2).take (sz - 12)) ++ (bV (headB f ++ List.replicate (sz - 12) 0)).drop (12 + min (B f.2.2).length (sz - 12)) = bV (bodyB sz f ++ List.replicate 4 0) := by
    have := put_at (headB f) (B f.2.2) (sz - 12) (by omega)
    rw [headB_length] at this
    rw [List.take_of_length_le (show (B f.2.2).length ≤ sz - 12 by omega), Nat.min_eq_left (by omega), bV_take, bV_drop, ← bV_append, ← bV_append, this]
    congr 1
    unfold bodyB
    rw [List.append_assoc (headB f ++ B f.2.2), hd, List.replicate_append_replicate]
    congr 2
    omega
  rw [s9] at hrow9
  have hbody : (bodyB sz f).length = sz - 4 := bodyB_length (by omega)
  refine draw_i fun w10 he10 _ _ => ?_
  have hrow10 := hrow9.ext he10
  have he10 := he9.trans he10
  rw [wrap_i64 (x := (sz : Int) - 4) (by omega) (by omega), show Int.toNat ((sz : Int) - 4) = sz - 4 by omega]
  refine guard_i ⟨by omega, by omega, by omega, by omega⟩ (guard_i ⟨by omega, by omega⟩ ?_)
  have hsl : Sl w10 (cutAddr (some ⟨b, 0, none⟩) 0 sz 1) (sz - 4) (bV (bodyB sz f)) := by
    have := (Sl.of_blk hrow10 (n := sz) (by rw [length_bV, List.length_append, hbody, List.length_replicate]; omega) (by omega)).cut0 (k := sz - 4) (m := sz) (by omega) (by omega)
    rw [bV_take, List.take_left' hbody] at this
    exact this
  refine callW_of (crc_calls hsl) ?_
  rintro _ w11 ⟨rfl, he11⟩
  refine ⟨_, rfl, ?_⟩
  have hrow11 := hrow10.ext he11
  have he11 := he10.trans he11
  have hclt := (crc (bodyB sz f)).isLt
  rw [wrap_u64_nat (by omega)]
  have hcut3 : cutAddr (some (⟨b, 0, none⟩ : Addr)) (sz - 4) sz 1 = some ⟨b, sz - 4, none⟩ := by
    unfold cutAddr
    rw [if_neg (by omega)]
    show some ((⟨b, 0, none⟩ : Addr).add ((sz - 4) * 1)) = _
    rw [add_mk, Nat.zero_add, Nat.mul_one]
  rw [hcut3, Nat.sub_self, show sz - (sz - 4) = 4 by omega]
  refine callW_of (putfit_calls (o := sz - 4) (n := 0) (c := 4) (k := 4) hrow11 (by rw [length_bV, List.length_append, hbody, List.length_replicate]; omega) (by omega) (by omega) (by omega) (by omega) (by omega)) ?_
  rintro _ w12 ⟨rfl, hrow12, hg12⟩
  refine ⟨(some ⟨b, sz - 4, none⟩, 0 + 4, 4), rfl, ?_⟩
  have he12 := grow he11 hg12
  have s12 : (bV (bodyB sz f ++ List.replicate 4 0)).take (sz - 4 + 0) ++ bV (le 4 (crc (bodyB sz f)).toNat) ++ (bV (bodyB sz f ++ List.replicate 4 0)).drop (sz - 4 + 0 + 4) = bV (putB sz f) := by
    have := put_at (bodyB sz f) (le 4 (crc (bodyB sz f)).toNat) 4 (by rw [le_length]; omega)
    rw [hbody, le_length] at this
    rw [bV_take, bV_drop, ← bV_append, ← bV_append, Nat.add_zero, this]
    simp [putB]
  rw [s12] at hrow12
  refine conv_str (e := 5) (by kernel_rfl) (by kernel_rfl) (by kernel_rfl) (Sl.of_blk hrow12 (by rw [length_bV, putB_length (by omega)]) (by omega)) ?_
  exact ⟨rfl, he12⟩
end Go.Proofs.YtcjobbcijbkjkaaGreat.V
