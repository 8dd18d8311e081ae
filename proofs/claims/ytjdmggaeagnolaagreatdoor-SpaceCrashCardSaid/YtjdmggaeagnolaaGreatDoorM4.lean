/- Texts of mine, merged (wip/tool/mergep.py): M4. -/
import Derived.Test.YtjdmggaeagnolaaGreatDoorM1
import Derived.Test.YtjdmggaeagnolaaGreatDoorM3
import Derived.RangeFuncRecord
import Derived.Test.YtjdmggaeagnolaaGreatDoorM2
import Derived.Shelf.Strings.Builder1
import Derived.Shelf.Strings.Builder2
import Derived.Shelf.Strings.BuilderF
import Derived.Shelf.Strings.BuilderK
import Derived.Shelf.Strings.Builder2Cap
import Derived.Shelf.Strings.Prefix
import Derived.Shelf.Bits.Mul64
import Derived.Shelf.Strings.Repeat
import Derived.Shelf.Strings.BuilderCap
import Derived.Ground.Names2Prog
import Derived.Shelf.Slices.Clone
import Derived.Ground.SlgnProg
import Derived.Shelf.SlicesE.Reverse
import Derived.Shelf.SlicesE.Clone
import Derived.Test.YtjdmggaeagnolaaGreatDoorProg
import Derived.Laws.CopyRow
/- Texts of mine, merged (wip/tool/mergep.py): M4. -/
/- Texts of mine, merged (wip/tool/mergep.py): KGeo, HI, KKit, KIter, Crc, Crc2, KCrc, KRef02, KKit2, HD, Shelf, KRead, KDev, HR2, KDev2, HH, KDev3, KDev4, KFrame, KFrame2, KSup, Spa, KCounts, KCounts2, HW, KCounts3. -/
/- Geometries, rooms: contracts. -/
set_option linter.unusedVariables false
set_option linter.unusedSimpArgs false
namespace Go.Proofs.YtjdmggaeagnolaaGreatDoor.V
open Go Go.Proofs Go.RowKit
def geoOK (size blocks : Int) : Bool := decide (128 ≤ size ∧ size ≤ 4096 ∧ Int.tmod size 64 = 0 ∧ 8 ≤ blocks ∧ blocks ≤ 4096)
theorem devcheck_calls (w : World) (size blocks : Int) : Calls Tryz.prog 90 #[.agg #[.int .i64 size, .int .i64 blocks]] w (Ret fun v w' => v = .int .i64 (if geoOK size blocks then 0 else 2) ∧ Ext w w') := by
  apply calls90
  unfold S90
  apply newW_i
  have hb : Blk (w.alloc (.cells #[(.int .i64 size), (.int .i64 blocks)] 23)) w.heap.size [(.int .i64 size), (.int .i64 blocks)] 23 := Blk.new w _ _
  have he : Ext w (w.alloc (.cells #[(.int .i64 size), (.int .i64 blocks)] 23)) := (Ext.refl w).alloc _
  generalize w.alloc (.cells #[(.int .i64 size), (.int .i64 blocks)] 23) = w1 at hb he ⊢
  have bad : ¬ (128 ≤ size ∧ size ≤ 4096 ∧ Int.tmod size 64 = 0 ∧ 8 ≤ blocks ∧ blocks ≤ 4096) → (Value.int .i64 2 = .int .i64 (if geoOK size blocks then 0 else 2) ∧ Ext w w1) := fun h => by
    unfold geoOK
    rw [decide_eq_false h]
    exact ⟨rfl, he⟩
  refine ldW_blk hb (by rfl) ?_
  refine splitW_i (fun h => bad (by have := of_decide_eq_true h; omega)) (fun h1 => ?_)
  refine ldW_blk hb (by rfl) ?_
  refine splitW_i (fun h => bad (by have := of_decide_eq_true h; omega)) (fun h2 => ?_)
  refine ldW_blk hb (by rfl) ?_
  refine splitW_i (fun h => bad (by rw [bne_iff_ne] at h; exact fun hh => h hh.2.2.1)) (fun h3 => ?_)
  refine ld_blk (o := 1) hb (by rfl) ?_
  refine splitW_i (fun h => bad (by have := of_decide_eq_true h; omega)) (fun h4 => ?_)
  refine ld_blk (o := 1) hb (by rfl) ?_
  refine splitW_i (fun h => bad (by have := of_decide_eq_true h; omega)) (fun h5 => ?_)
  have h1 := of_decide_eq_false h1
  have h2 := of_decide_eq_false h2
  have h3 : Int.tmod size 64 = 0 := by simpa using h3
  have h4 := of_decide_eq_false h4
  have h5 := of_decide_eq_false h5
  unfold geoOK
  rw [decide_eq_true ⟨by omega, by omega, h3, by omega, by omega⟩]
  exact ⟨rfl, he⟩
def roomOf (size : Int) : Int := if geoOK size 8 then size - 16 else 0
theorem room_calls (w : World) (size : Int) : Calls Tryz.prog 96 #[.int .i64 size] w (Ret fun v w' => v = .int .i64 (roomOf size) ∧ Ext w w') := by
  apply calls96
  unfold S96 roomOf
  refine callW_of (devcheck_calls w size 8) ?_
  rintro _ w1 ⟨rfl, he⟩
  refine ⟨_, rfl, ?_⟩
  cases hok : geoOK size 8 with
  | false => exact splitW_t (by rfl) ⟨rfl, he⟩
  | true =>
    refine splitW_f (by rfl) ⟨?_, he⟩
    unfold geoOK at hok
    have hok := of_decide_eq_true hok
    rw [wrap_i64 (x := size - 12) (by omega) (by omega), wrap_i64 (by omega) (by omega), if_pos rfl]
    congr 1
    omega
theorem refcheck_calls (w : World) (size blocks : Int) : Calls Tryz.prog 128 #[.agg #[.int .i64 size, .int .i64 blocks]] w (Ret fun v w' => v = .int .i64 (if geoOK size blocks then 0 else 2) ∧ Ext w w') := by
  apply calls128
  unfold S128
  apply newW_i
  have hb : Blk (w.alloc (.cells #[(.int .i64 size), (.int .i64 blocks)] 23)) w.heap.size [(.int .i64 size), (.int .i64 blocks)] 23 := Blk.new w _ _
  have he : Ext w (w.alloc (.cells #[(.int .i64 size), (.int .i64 blocks)] 23)) := (Ext.refl w).alloc _
  generalize w.alloc (.cells #[(.int .i64 size), (.int .i64 blocks)] 23) = w1 at hb he ⊢
  have hno : ¬ (128 ≤ size ∧ size ≤ 4096 ∧ Int.tmod size 64 = 0 ∧ 8 ≤ blocks ∧ blocks ≤ 4096) → (if geoOK size blocks then (0 : Int) else 2) = 2 := fun hp => by
    unfold geoOK
    rw [if_neg (by simpa only [decide_eq_true_eq] using hp)]
  refine ldW_blk hb (by rfl) ?_
  refine splitW_i (fun h => ?_) (fun h1 => ?_)
  · have h := of_decide_eq_true h
    exact ⟨by rw [hno (by omega)], he⟩
  refine ldW_blk hb (by rfl) ?_
  refine splitW_i (fun h => ?_) (fun h2 => ?_)
  · have h := of_decide_eq_true h
    exact ⟨by rw [hno (by omega)], he⟩
  refine ldW_blk hb (by rfl) ?_
  refine splitW_i (fun h => ?_) (fun h3 => ?_)
  · have h := bne_iff_ne.1 h
    exact ⟨by rw [hno (by omega)], he⟩
  refine ld_blk (o := 1) hb (by rfl) ?_
  refine splitW_i (fun h => ?_) (fun h4 => ?_)
  · have h := of_decide_eq_true h
    exact ⟨by rw [hno (by omega)], he⟩
  refine ld_blk (o := 1) hb (by rfl) ?_
  refine splitW_i (fun h => ?_) (fun h5 => ?_)
  · have h := of_decide_eq_true h
    exact ⟨by rw [hno (by omega)], he⟩
  have h1 := of_decide_eq_false h1
  have h2 := of_decide_eq_false h2
  have h3 := bne_eq_false_iff_eq.1 h3
  have h4 := of_decide_eq_false h4
  have h5 := of_decide_eq_false h5
  refine ⟨?_, he⟩
  unfold geoOK
  rw [if_pos (decide_eq_true (by omega))]
theorem refroom_calls (w : World) (size : Int) : Calls Tryz.prog 126 #[.int .i64 size] w (Ret fun v w' => v = .int .i64 (roomOf size) ∧ Ext w w') := by
  apply calls126
  unfold S126 roomOf
  refine callW_of (refcheck_calls w size 8) ?_
  rintro _ w1 ⟨rfl, he⟩
  refine ⟨_, rfl, ?_⟩
  cases hok : geoOK size 8 with
  | false => exact splitW_t (by rfl) ⟨rfl, he⟩
  | true =>
    refine splitW_f (by rfl) ⟨?_, he⟩
    unfold geoOK at hok
    have hok := of_decide_eq_true hok
    rw [wrap_i64 (x := size - 16) (by omega) (by omega), if_pos rfl]
def lightGeo (size blocks : Int) : Bool := if size < 128 ∨ size > 4096 ∨ blocks < 8 ∨ blocks > 4096 then true else decide (size ≤ 512 ∧ blocks ≤ 40)
theorem lightgeo_calls (w : World) (size blocks : Int) : Calls Tryz.prog 5 #[.agg #[.int .i64 size, .int .i64 blocks]] w (Ret fun v w' => v = .bool (lightGeo size blocks) ∧ Ext w w') := by
  apply calls5
  unfold S5 lightGeo
  apply newW_i
  have hb : Blk (w.alloc (.cells #[(.int .i64 size), (.int .i64 blocks)] 23)) w.heap.size [(.int .i64 size), (.int .i64 blocks)] 23 := Blk.new w _ _
  have he : Ext w (w.alloc (.cells #[(.int .i64 size), (.int .i64 blocks)] 23)) := (Ext.refl w).alloc _
  generalize w.alloc (.cells #[(.int .i64 size), (.int .i64 blocks)] 23) = w1 at hb he ⊢
  refine ldW_blk hb (by rfl) ?_
  refine splitW_i (fun h => ?_) (fun h1 => ?_)
  · rw [if_pos (.inl (of_decide_eq_true h))]; exact ⟨rfl, he⟩
  refine ldW_blk hb (by rfl) ?_
  refine splitW_i (fun h => ?_) (fun h2 => ?_)
  · rw [if_pos (.inr (.inl (of_decide_eq_true h)))]; exact ⟨rfl, he⟩
  refine ld_blk (o := 1) hb (by rfl) ?_
  refine splitW_i (fun h => ?_) (fun h3 => ?_)
  · rw [if_pos (.inr (.inr (.inl (of_decide_eq_true h))))]; exact ⟨rfl, he⟩
  refine ld_blk (o := 1) hb (by rfl) ?_
  refine splitW_i (fun h => ?_) (fun h4 => ?_)
  · rw [if_pos (.inr (.inr (.inr (of_decide_eq_true h))))]; exact ⟨rfl, he⟩
  have h1 := of_decide_eq_false h1
  have h2 := of_decide_eq_false h2
  have h3 := of_decide_eq_false h3
  have h4 := of_decide_eq_false h4
  rw [if_neg (by omega)]
  refine ldW_blk hb (by rfl) ?_
  refine splitW_i (fun h => ?_) (fun h5 => ?_)
  · have h := of_decide_eq_true h
    refine ld_blk (o := 1) hb (by rfl) ?_
    refine ⟨?_, he⟩
    congr 1
    exact decide_eq_decide.2 (by omega)
  · have h5 := of_decide_eq_false h5
    refine ⟨?_, he⟩
    congr 1
    symm
    rw [decide_eq_false_iff_not]
    omega
end Go.Proofs.YtjdmggaeagnolaaGreatDoor.V
/- Iterators: slices.Chunk's and slices.Backward's inner functions, told of any program. -/
namespace Go.Proofs.YtjdmggaeagnolaaGreatDoor.V
open Go
def ChunkW (P : Program) (z : Nat) (x0 : Value) (a1 : Addr) (a2 : Addr) (K : Value → WP) : WP :=
  loopW (Int × Unit) ((0 : Int), ()) fun (y2 : Int × Unit) (I1 : (Int × Unit) → WP) =>
  ldW .slc a1 fun (u3 : (Option Addr × Nat × Nat)) =>
  splitW (decide (y2.1 < ((u3.2.1 : Nat) : Int))) (drewW <|
  ldW (.int .i64) a2 fun (u4 : Int) =>
  ldW .slc a1 fun (u5 : (Option Addr × Nat × Nat)) =>
  guardW (0 ≤ y2.1 ∧ y2.1 ≤ ((u5.2.1 : Nat) : Int)) <|
  ldW .slc a1 fun (u6 : (Option Addr × Nat × Nat)) =>
  guardW (0 ≤ y2.1 ∧ y2.1 ≤ (IntKind.wrap .i64 (y2.1 + (if (((u5.2.1 - (Int.toNat y2.1)) : Nat) : Int) < u4 then (((u5.2.1 - (Int.toNat y2.1)) : Nat) : Int) else u4))) ∧ (IntKind.wrap .i64 (y2.1 + (if (((u5.2.1 - (Int.toNat y2.1)) : Nat) : Int) < u4 then (((u5.2.1 - (Int.toNat y2.1)) : Nat) : Int) else u4))) ≤ (IntKind.wrap .i64 (y2.1 + (if (((u5.2.1 - (Int.toNat y2.1)) : Nat) : Int) < u4 then (((u5.2.1 - (Int.toNat y2.1)) : Nat) : Int) else u4))) ∧ (IntKind.wrap .i64 (y2.1 + (if (((u5.2.1 - (Int.toNat y2.1)) : Nat) : Int) < u4 then (((u5.2.1 - (Int.toNat y2.1)) : Nat) : Int) else u4))) ≤ ((u6.2.2 : Nat) : Int)) <|
  callVW P x0 [(.slice (cutAddr u6.1 (Int.toNat y2.1) (Int.toNat (IntKind.wrap .i64 (y2.1 + (if (((u5.2.1 - (Int.toNat y2.1)) : Nat) : Int) < u4 then (((u5.2.1 - (Int.toNat y2.1)) : Nat) : Int) else u4)))) z) ((Int.toNat (IntKind.wrap .i64 (y2.1 + (if (((u5.2.1 - (Int.toNat y2.1)) : Nat) : Int) < u4 then (((u5.2.1 - (Int.toNat y2.1)) : Nat) : Int) else u4)))) - (Int.toNat y2.1)) ((Int.toNat (IntKind.wrap .i64 (y2.1 + (if (((u5.2.1 - (Int.toNat y2.1)) : Nat) : Int) < u4 then (((u5.2.1 - (Int.toNat y2.1)) : Nat) : Int) else u4)))) - (Int.toNat y2.1)))] (.one (.one .bool)) fun (u7 : Bool) =>
  splitW (!u7) (K (.tuple #[])) <|
  ldW (.int .i64) a2 fun (u8 : Int) => I1 ((IntKind.wrap .i64 (y2.1 + u8)), ())) <| K (.tuple #[])
def cutsN (n k : Nat) : Nat := (n + k - 1) / k
theorem cutsN_lt {n k i : Nat} (hk : 1 ≤ k) : i < cutsN n k ↔ i * k < n := by
  unfold cutsN
  rw [Nat.lt_iff_add_one_le, Nat.le_div_iff_mul_le (by omega), Nat.succ_mul]
  omega
def cutsV (z : Nat) (A : Option Addr) (n k : Nat) : List (List Value) := (List.range (cutsN n k)).map fun i => [.slice (cutAddr A (i * k) (i * k + min k (n - i * k)) z) (min k (n - i * k)) (min k (n - i * k))]
theorem cutsV_length (z : Nat) (A : Option Addr) (n k : Nat) : (cutsV z A n k).length = cutsN n k := by simp [cutsV]
theorem chunk_walk {P : Program} {z r1 r2 l n c k : Nat} {A : Option Addr} {t1 t2 : TypeId} {J : Nat → WP} {w : World} (hk : 1 ≤ k) (hnc : n ≤ c) (hnk : n + k ≤ 9223372036854775807) (h0 : J 0 w)
    (hR : ∀ i w', J i w' → Blk w' r1 [.slice A n c] t1 ∧ Blk w' r2 [.int .i64 (k : Int)] t2) (hd : ∀ i w', J i w' → J i w'.drew)
    (hY : ∀ i w' (h : i < (cutsV z A n k).length), J i w' → YieldAt P l (cutsV z A n k)[i] w' fun v w'' => v = .bool true ∧ J (i + 1) w'') :
    ChunkW P z (.func (.yield l) #[] #[]) ⟨r1, 0, none⟩ ⟨r2, 0, none⟩ (fun _ w' => J (cutsV z A n k).length w') w := by
  unfold ChunkW
  rw [cutsV_length]
  refine loopW_i (fun y w' => ∃ i : Nat, i ≤ cutsN n k ∧ y = (((i * k : Nat) : Int), ()) ∧ J i w') (fun y => ((n : Int) + k - y.1).toNat) ⟨0, by omega, by simp, h0⟩ ?_
  rintro _ w' ⟨i, hi, rfl, hJ⟩
  dsimp only
  obtain ⟨h1, h2⟩ := hR i w' hJ
  refine ldW_blk (x := (A, n, c)) h1 (by rfl) ?_
  dsimp only
  by_cases hlt : i * k < n
  · refine splitW_t (decide_eq_true (by omega)) ?_
    have hJ' := hd i w' hJ
    obtain ⟨h1, h2⟩ := hR i _ hJ'
    show (ldW _ _ _) w'.drew
    generalize w'.drew = w1 at hJ' h1 h2 ⊢
    refine ldW_blk (x := (k : Int)) h2 (by rfl) ?_
    refine ldW_blk (x := (A, n, c)) h1 (by rfl) ?_
    dsimp only
    refine ⟨⟨by omega, by omega⟩, ?_⟩
    refine ldW_blk (x := (A, n, c)) h1 (by rfl) ?_
    dsimp only
    have e : IntKind.wrap .i64 (((i * k : Nat) : Int) + (if (((n - Int.toNat ((i * k : Nat) : Int)) : Nat) : Int) < (k : Int) then (((n - Int.toNat ((i * k : Nat) : Int)) : Nat) : Int) else (k : Int))) = ((i * k + min k (n - i * k) : Nat) : Int) := by
      rw [Int.toNat_natCast]
      generalize i * k = m at hlt ⊢
      split <;> rw [wrap_i64 (by omega) (by omega)] <;> omega
    rw [e]
    refine ⟨⟨by omega, by omega, by omega, by omega⟩, ?_⟩
    rw [Int.toNat_natCast, Int.toNat_natCast, Nat.add_sub_cancel_left]
    have hlt' : i < (cutsV z A n k).length := by rw [cutsV_length]; exact (cutsN_lt hk).2 hlt
    refine .inr ⟨l, rfl, ?_⟩
    have hy := hY i w1 hlt' hJ'
    have el : (cutsV z A n k)[i] = [.slice (cutAddr A (i * k) (i * k + min k (n - i * k)) z) (min k (n - i * k)) (min k (n - i * k))] := by simp [cutsV]
    rw [el] at hy
    obtain ⟨fn, tmps, asg, bd, hy1, hy2⟩ := hy
    refine ⟨fn, tmps, asg, bd, hy1, RoundIn.mono hy2 ?_⟩
    rintro (v | x | _) w2 hv
    · obtain ⟨rfl, hJ2⟩ := hv
      refine ⟨true, rfl, ?_⟩
      refine splitW_f (by rfl) ?_
      obtain ⟨h1, h2⟩ := hR _ _ hJ2
      refine ldW_blk (x := (k : Int)) h2 (by rfl) ?_
      rw [wrap_i64 (by omega) (by omega)]
      refine ⟨⟨i + 1, by rw [cutsV_length] at hlt'; omega, by rw [Nat.succ_mul]; rfl, hJ2⟩, ?_⟩
      generalize i * k = m at hlt ⊢
      omega
    · exact hv
    · exact hv
  · refine splitW_f (decide_eq_false (by omega)) ?_
    have : i = cutsN n k := by
      rcases Nat.lt_or_ge i (cutsN n k) with h | h
      · exact absurd ((cutsN_lt hk).1 h) hlt
      · omega
    subst this
    exact hJ
def BackW (P : Program) (x0 : Value) (a1 : Addr) (K : Value → WP) : WP :=
  ldW .slc a1 fun (u1 : (Option Addr × Nat × Nat)) =>
  loopW (Int × Unit) ((IntKind.wrap .i64 (((u1.2.1 : Nat) : Int) - (1 : Int))), ()) fun (y3 : Int × Unit) (I2 : (Int × Unit) → WP) =>
  splitW (decide (y3.1 ≥ (0 : Int))) (ldW .slc a1 fun (u4 : (Option Addr × Nat × Nat)) =>
  guardW (0 ≤ y3.1 ∧ y3.1 < ((u4.2.1 : Nat) : Int)) <|
  ptrW u4.1 fun (p5 : Addr) =>
  ldW (.int .u8) (p5.add (Int.toNat y3.1 * 1)) fun (u6 : Int) =>
  callVW P x0 [(.int .i64 y3.1), (.int .u8 u6)] (.one (.one .bool)) fun (u7 : Bool) =>
  splitW (!u7) (K (.tuple #[])) <| I2 ((IntKind.wrap .i64 (y3.1 - (1 : Int))), ())) <| K (.tuple #[])
def backV (bs : List UInt8) : List (List Value) := (List.range bs.length).map fun i => [.int .i64 ((bs.length - 1 - i : Nat) : Int), .int .u8 ((bs.getD (bs.length - 1 - i) 0).toNat : Int)]
theorem backV_length (bs : List UInt8) : (backV bs).length = bs.length := by simp [backV]
theorem back_walk {P : Program} {r1 l n c : Nat} {A : Option Addr} {bs : List UInt8} {t1 : TypeId} {J : Nat → WP} {w : World} (h0 : J 0 w)
    (hR : ∀ i w', J i w' → Blk w' r1 [.slice A n c] t1 ∧ Sl w' A n (bV bs))
    (hY : ∀ i w' (h : i < (backV bs).length), J i w' → YieldAt P l (backV bs)[i] w' fun v w'' => v = .bool true ∧ J (i + 1) w'') :
    BackW P (.func (.yield l) #[] #[]) ⟨r1, 0, none⟩ (fun _ w' => J (backV bs).length w') w := by
  unfold BackW
  rw [backV_length]
  obtain ⟨h1, h2⟩ := hR 0 w h0
  have hl := h2.blen
  have hle := h2.le
  refine ldW_blk (x := (A, n, c)) h1 (by rfl) ?_
  dsimp only
  rw [wrap_i64 (by omega) (by omega)]
  refine loopW_i (fun y w' => ∃ i : Nat, i ≤ n ∧ y = ((n : Int) - 1 - i, ()) ∧ J i w') (fun y => (y.1 + 1).toNat) ⟨0, by omega, by simp, h0⟩ ?_
  rintro _ w' ⟨i, hi, rfl, hJ⟩
  dsimp only
  by_cases hlt : i < n
  · refine splitW_t (decide_eq_true (by omega)) ?_
    obtain ⟨h1, h2⟩ := hR i w' hJ
    refine ldW_blk (x := (A, n, c)) h1 (by rfl) ?_
    dsimp only
    refine idx_byte h2 (by omega) (by omega) ?_
    have hlt' : i < (backV bs).length := by rw [backV_length]; omega
    refine .inr ⟨l, rfl, ?_⟩
    have hy := hY i w' hlt' hJ
    have el : (backV bs)[i] = [.int .i64 ((n : Int) - 1 - i), .int .u8 ((bs.getD (Int.toNat ((n : Int) - 1 - i)) 0).toNat : Int)] := by
      have e1 : ((bs.length - 1 - i : Nat) : Int) = (n : Int) - 1 - i := by omega
      have e2 : Int.toNat ((n : Int) - 1 - i) = bs.length - 1 - i := by omega
      rw [e2, ← e1]
      simp [backV]
    rw [el] at hy
    obtain ⟨fn, tmps, asg, bd, hy1, hy2⟩ := hy
    refine ⟨fn, tmps, asg, bd, hy1, RoundIn.mono hy2 ?_⟩
    rintro (v | x | _) w2 hv
    · obtain ⟨rfl, hJ2⟩ := hv
      refine ⟨true, rfl, ?_⟩
      refine splitW_f (by rfl) ?_
      rw [wrap_i64 (by omega) (by omega)]
      exact ⟨⟨i + 1, by omega, by congr 1; omega, hJ2⟩, by omega⟩
    · exact hv
    · exact hv
  · refine splitW_f (decide_eq_false (by omega)) ?_
    obtain rfl : i = bs.length := by omega
    exact hJ
end Go.Proofs.YtjdmggaeagnolaaGreatDoor.V
/- Contracts of the statements' own helpers, and of slices.Clone. -/
namespace Go.Proofs.YtjdmggaeagnolaaGreatDoor.V
open Go Go.Proofs
theorem elem_u8 : Elem Tryz.prog 93 5 (.int .u8 0) 1 := by
  refine ⟨by kernel_rfl, by kernel_rfl, rfl⟩
def Bytes (w : World) (bs : List UInt8) (v : Value) (w' : World) : Prop := ∃ x : Option Addr × Nat × Nat, v = .slice x.1 x.2.1 x.2.2 ∧ Own 5 w' w.heap.size x.1 x.2.1 x.2.2 (bV bs) ∧ Ext w w'
theorem bytes_ret {w w' : World} {bs : List UInt8} {A : Option Addr} {n c : Nat} (h : Own 5 w' w.heap.size A n c (bV bs)) (he : Ext w w') : Bytes w bs (.slice A n c) w' := ⟨(A, n, c), rfl, h, he⟩
theorem own_of {w : World} {A : Option Addr} {n c : Nat} {bs : List UInt8} {K : Option Addr × Nat × Nat → WP} (h : Sl w A n (bV bs)) (hn : n ≤ 140737488355328)
    (hK : ∀ A' c' w', Own 5 w' w.heap.size A' n c' (bV bs) → Ext w w' → K (A', n, c') w') :
    (newW (.cells #[] 5) fun r => runW Tryz.prog (Builtin.append_ #[93, 93] 93 #[.slice (some (⟨r, 0, none⟩ : Addr)) 0 0, .slice A n c]) .slc K) w := by
  apply newW_i
  have ho : Own 5 (w.alloc (.cells #[] 5)) w.heap.size (some ⟨w.heap.size, 0, none⟩) 0 0 [] := Own.lit (cs := #[]) (Nat.le_refl _) (by simp)
  have he : Ext w (w.alloc (.cells #[] 5)) := (Ext.refl w).alloc _
  refine append_sl (c := 0) (n := 0) (m := n) elem_u8 ho he.size (h.ext he) (bV_one bs) (by omega) (by omega) ?_
  intro A' c' w' ho' hg _
  rw [List.nil_append, Nat.zero_add] at ho'
  rw [Nat.zero_add]
  exact hK A' c' w' ho' (he.grown hg.grown (ho.row'))
def pick (n m : Int) : Int := if m < 1 then 0 else n % m
theorem pick_calls (w : World) {n m : Int} (hn0 : -9223372036854775808 ≤ n) (hn1 : n < 9223372036854775808) (hm1 : m < 9223372036854775808) : Calls Tryz.prog 14 #[.int .i64 n, .int .i64 m] w (Ret fun v w' => v = .int .i64 (pick n m) ∧ w' = w) := by
  apply calls14
  unfold S14 pick
  refine splitW_i (fun h => ?_) (fun h => ?_)
  · rw [if_pos (of_decide_eq_true h)]
    exact ⟨rfl, rfl⟩
  · have hm : ¬ m < 1 := of_decide_eq_false h
    rw [if_neg hm]
    refine ⟨by omega, ?_⟩
    have e := @Int.tmod_eq_emod n m
    have h1 := Int.emod_nonneg n (show m ≠ 0 by omega)
    have h2 := Int.emod_lt_of_pos n (show 0 < m by omega)
    by_cases hneg : n.tmod m < 0
    · refine splitW_t (decide_eq_true hneg) ?_
      refine ⟨?_, rfl⟩
      have h3 : n.tmod m = n % m - m := by
        rw [e]
        split
        · rename_i h4
          have : n.tmod m = n % m := by rw [e, if_pos h4]; omega
          omega
        · omega
      rw [h3, wrap_i64 (by omega) (by omega)]
      congr 1
      omega
    · refine splitW_f (decide_eq_false hneg) ?_
      refine ⟨?_, rfl⟩
      congr 1
      rw [e]
      split
      · omega
      · rename_i h4
        have : n.tmod m = n % m - m := by rw [e, if_neg h4]; omega
        omega
theorem put_calls {w : World} {B : Nat} {A : Option Addr} {n c : Nat} {bs : List UInt8} {v k : Nat} (h : Own 5 w B A n c (bV bs)) (hB : B ≤ w.heap.size) (hn : n ≤ 140737488355000) (hv : v < 18446744073709551616) (hk1 : 1 ≤ k) (hk : k ≤ 8) :
    Calls Tryz.prog 111 #[.slice A n c, .int .u64 (v : Int), .int .i64 (k : Int)] w (Ret fun r w' => ∃ x : Option Addr × Nat × Nat, r = .slice x.1 x.2.1 x.2.2 ∧ Own 5 w' B x.1 x.2.1 x.2.2 (bV (bs ++ le k v)) ∧ Grew w w' (orow A) (orow x.1)) := by
  apply calls111
  unfold S111
  refine splitW_f (decide_eq_false (by omega)) ?_
  refine splitW_f (decide_eq_false (by omega)) ?_
  refine loopW_i (fun x w' => ∃ (A' : Option Addr) (c' i : Nat), i ≤ k ∧ x = ((A', n + i, c'), (i : Int), ()) ∧ Own 5 w' B A' (n + i) c' (bV (bs ++ le i v)) ∧ Grew w w' (orow A) (orow A')) (fun x => (k - x.2.1).toNat)
    ⟨A, c, 0, by omega, rfl, by simpa [le] using h, Grew.refl _ _⟩ ?_
  rintro _ w' ⟨A', c', i, hi, rfl, ho, hg⟩
  dsimp only
  have hB' : B ≤ w'.heap.size := Nat.le_trans hB hg.grown.size
  by_cases hlt : i < k
  · refine splitW_t (decide_eq_true (by omega)) ?_
    have e1 : IntKind.wrap .u64 (IntKind.wrap .i64 ((8 : Int) * (i : Int))) = ((8 * i : Nat) : Int) := by
      rw [wrap_i64 (by omega) (by omega), wrap_u64]
      omega
    rw [e1]
    refine ⟨by omega, ?_⟩
    rw [ishr_nat .u64 v (8 * i) (by simp [IntKind.bits]; omega), wrap_u8_nat, Nat.pow_mul, show (2 : Nat) ^ 8 = 256 from rfl]
    have hone : ∀ y ∈ [Value.int .u8 ((UInt8.ofNat (v / 256 ^ i)).toNat : Int)], y.oneCell' = true := by
      intro y hy
      simp only [List.mem_singleton] at hy
      subst hy
      rfl
    refine append_new (ys := [Value.int .u8 ((UInt8.ofNat (v / 256 ^ i)).toNat : Int)]) elem_u8 ho hB' hone (by simp; omega) (by omega) ?_
    intro A2 c2 w2 ho2 hg2
    refine ⟨⟨A2, c2, i + 1, by omega, ?_, ?_, ?_⟩, ?_⟩
    · rw [wrap_i64 (by omega) (by omega)]; rfl
    · have e2 : bV (bs ++ le (i + 1) v) = bV (bs ++ le i v) ++ [Value.int .u8 ((UInt8.ofNat (v / 256 ^ i)).toNat : Int)] := by
        rw [le_succ, ← List.append_assoc, bV_append (bs ++ le i v)]
        rfl
      rw [e2]
      exact ho2
    · exact hg.step hg2
    · rw [wrap_i64 (by omega) (by omega)]; omega
  · obtain rfl : i = k := by omega
    refine splitW_f (decide_eq_false (by omega)) ?_
    exact ⟨(A', n + i, c'), rfl, ho, hg⟩
theorem refof_calls {w : World} {A : Option Addr} {n c : Nat} {bs : List UInt8} (h : Sl w A n (bV bs)) (hn : n ≤ 8) : Calls Tryz.prog 88 #[.slice A n c] w (Ret fun v w' => v = .int .u64 (lev bs : Int) ∧ w' = w) := by
  apply calls88
  unfold S88
  have hl := h.blen
  refine splitW_f (decide_eq_false (by omega)) ?_
  refine loopW_i (fun x w' => w' = w ∧ ∃ i : Nat, i ≤ n ∧ x = ((lev (bs.take i) : Int), (i : Int), ())) (fun x => (n - x.2.1).toNat) ⟨rfl, 0, by omega, by simp [lev]⟩ ?_
  rintro _ w' ⟨rfl, i, hi, rfl⟩
  dsimp only
  by_cases hlt : i < n
  · refine splitW_t (decide_eq_true (by omega)) ?_
    refine idx_byte h (by omega) (by omega) ?_
    have e1 : IntKind.wrap .u64 (IntKind.wrap .i64 ((8 : Int) * (i : Int))) = ((8 * i : Nat) : Int) := by
      rw [wrap_i64 (by omega) (by omega), wrap_u64]
      omega
    rw [e1]
    refine ⟨by omega, ?_⟩
    rw [Int.toNat_natCast, wrap_i64 (by omega) (by omega)]
    refine ⟨⟨rfl, i + 1, by omega, ?_⟩, by omega⟩
    have hb := (bs.getD i 0).toNat_lt
    rw [wrap_u64_nat (by omega), ishl_nat (k := .u64) rfl _ (8 * i) (by simp [IntKind.bits]; omega)]
    have e2 : bs.take (i + 1) = bs.take i ++ [bs.getD i 0] := by
      rw [List.take_succ_eq_append_getElem (by omega), List.getD_eq_getElem?_getD, List.getElem?_eq_getElem (by omega)]
      rfl
    have hlev := lev_lt (bs.take i)
    rw [List.length_take, Nat.min_eq_left (by omega)] at hlev
    have hp : 256 ^ i = 2 ^ (8 * i) := by rw [Nat.pow_mul]
    rw [hp] at hlev
    have h64 : 2 ^ (8 * i) * 256 ≤ 2 ^ 64 := by
      rw [show (256 : Nat) = 2 ^ 8 from rfl, ← Nat.pow_add]
      exact Nat.pow_le_pow_right (by omega) (by omega)
    have hmul : (bs.getD i 0).toNat * 2 ^ (8 * i) < 2 ^ 64 := Nat.lt_of_lt_of_le (Nat.mul_lt_mul_of_pos_right hb (Nat.two_pow_pos _)) (by rw [Nat.mul_comm]; exact h64)
    have e3 : (bs.getD i 0).toNat * 2 ^ (8 * i) % 2 ^ IntKind.bits .u64 = 2 ^ (8 * i) * (bs.getD i 0).toNat := by rw [Nat.mul_comm (2 ^ (8 * i))]; exact Nat.mod_eq_of_lt hmul
    rw [e3, ior_nat (k := .u64) rfl (Nat.lt_of_lt_of_le hlev (Nat.le_trans (by omega) h64)) (by rw [Nat.mul_comm]; exact hmul)]
    rw [e2, lev_append, List.length_take, Nat.min_eq_left (by omega), hp]
    simp only [lev, Nat.mul_zero, Nat.add_zero]
    rw [Nat.or_comm, ← Nat.two_pow_add_eq_or_of_lt hlev, Nat.add_comm]
    rfl
  · obtain rfl : i = n := by omega
    refine splitW_f (decide_eq_false (by omega)) ?_
    rw [List.take_of_length_le (by omega)]
    exact ⟨rfl, rfl⟩
theorem clone_calls {w : World} {A : Option Addr} {n c : Nat} {bs : List UInt8} (h : Sl w A n (bV bs)) (hn : n ≤ 140737488355328) : Calls Tryz.prog 120 #[.slice A n c] w (Ret (Bytes w bs)) := by
  apply calls120
  unfold S120
  refine splitW_i (fun hA => ?_) (fun hA => ?_)
  · have hA : A = none := by simpa using hA
    subst hA
    have hn0 : n = 0 := by
      rcases Nat.eq_zero_or_pos n with h0 | h0
      · exact h0
      · obtain ⟨a, h1, _⟩ := h.2.2 h0; cases h1
    have hb := h.blen
    obtain rfl : bs = [] := List.eq_nil_of_length_eq_zero (by omega)
    exact bytes_ret (Own.nil _ _ _) (Ext.refl w)
  · exact own_of h hn fun A' c' w' ho he => bytes_ret ho he
end Go.Proofs.YtjdmggaeagnolaaGreatDoor.V
/- Contracts of slices.Chunk, slices.Backward, octet.Of, octet.Put. -/
namespace Go.Proofs.YtjdmggaeagnolaaGreatDoor.V
open Go Go.Proofs Go.RowKit
def RChunk8 (r1 r2 : Nat) (A : Option Addr) (n c k : Nat) : WP := fun w => Blk w r1 [.slice A n c] 93 ∧ Blk w r2 [.int .i64 (k : Int)] 3
theorem chunk8_calls {w : World} {A : Option Addr} {n c k : Nat} (hk : 1 ≤ k) (hnc : n ≤ c) (hnk : n + k ≤ 9223372036854775807) : Calls Tryz.prog 74 #[.slice A n c, .int .i64 (k : Int)] w (Ret fun v w' => Iter Tryz.prog v (cutsV 1 A n k) (RChunk8 w.heap.size (w.heap.size + 1) A n c k) ∧ RChunk8 w.heap.size (w.heap.size + 1) A n c k w' ∧ w'.heap.size = w.heap.size + 2 ∧ Ext w w') := by
  apply calls74
  unfold S74
  apply newW_i
  have h1 := Blk.new w #[.slice A n c] 93
  have he := (Ext.refl w).alloc (.cells #[.slice A n c] 93)
  have hs : (w.alloc (.cells #[.slice A n c] 93)).heap.size = w.heap.size + 1 := by simp
  generalize w.alloc (.cells #[.slice A n c] 93) = w1 at h1 he hs ⊢
  apply newW_i
  have h2 := Blk.new w1 #[.int .i64 (k : Int)] 3
  have h1 := h1.alloc (.cells #[.int .i64 (k : Int)] 3)
  have he := he.alloc (.cells #[.int .i64 (k : Int)] 3)
  have hs2 : (w1.alloc (.cells #[.int .i64 (k : Int)] 3)).heap.size = w.heap.size + 2 := by simp [hs]
  generalize w1.alloc (.cells #[.int .i64 (k : Int)] 3) = w2 at h1 h2 he hs2 ⊢
  rw [hs] at h2 ⊢
  refine ldW_blk (x := (k : Int)) h2 (by rfl) ?_
  refine splitW_f (decide_eq_false (by omega)) ?_
  refine ⟨⟨_, _, rfl, by kernel_rfl, fun l J w' hJ hR hd hY => ?_⟩, ⟨h1, h2⟩, hs2, he⟩
  apply calls104
  exact chunk_walk (P := Tryz.prog) hk hnc hnk hJ hR hd hY
def RChunk16 (r1 r2 : Nat) (A : Option Addr) (n c k : Nat) : WP := fun w => Blk w r1 [.slice A n c] 140 ∧ Blk w r2 [.int .i64 (k : Int)] 3
theorem chunk16_calls {w : World} {A : Option Addr} {n c k : Nat} (hk : 1 ≤ k) (hnc : n ≤ c) (hnk : n + k ≤ 9223372036854775807) : Calls Tryz.prog 103 #[.slice A n c, .int .i64 (k : Int)] w (Ret fun v w' => Iter Tryz.prog v (cutsV 1 A n k) (RChunk16 w.heap.size (w.heap.size + 1) A n c k) ∧ RChunk16 w.heap.size (w.heap.size + 1) A n c k w' ∧ w'.heap.size = w.heap.size + 2 ∧ Ext w w') := by
  apply calls103
  unfold S103
  apply newW_i
  have h1 := Blk.new w #[.slice A n c] 140
  have he := (Ext.refl w).alloc (.cells #[.slice A n c] 140)
  have hs : (w.alloc (.cells #[.slice A n c] 140)).heap.size = w.heap.size + 1 := by simp
  generalize w.alloc (.cells #[.slice A n c] 140) = w1 at h1 he hs ⊢
  apply newW_i
  have h2 := Blk.new w1 #[.int .i64 (k : Int)] 3
  have h1 := h1.alloc (.cells #[.int .i64 (k : Int)] 3)
  have he := he.alloc (.cells #[.int .i64 (k : Int)] 3)
  have hs2 : (w1.alloc (.cells #[.int .i64 (k : Int)] 3)).heap.size = w.heap.size + 2 := by simp [hs]
  generalize w1.alloc (.cells #[.int .i64 (k : Int)] 3) = w2 at h1 h2 he hs2 ⊢
  rw [hs] at h2 ⊢
  refine ldW_blk (x := (k : Int)) h2 (by rfl) ?_
  refine splitW_f (decide_eq_false (by omega)) ?_
  refine ⟨⟨_, _, rfl, by kernel_rfl, fun l J w' hJ hR hd hY => ?_⟩, ⟨h1, h2⟩, hs2, he⟩
  apply calls124
  exact chunk_walk (P := Tryz.prog) hk hnc hnk hJ hR hd hY
def RBack (r1 : Nat) (A : Option Addr) (n c : Nat) (bs : List UInt8) : WP := fun w => Blk w r1 [.slice A n c] 93 ∧ Sl w A n (bV bs)
theorem back_calls {w : World} {A : Option Addr} {n c : Nat} {bs : List UInt8} (h : Sl w A n (bV bs)) : Calls Tryz.prog 105 #[.slice A n c] w (Ret fun v w' => Iter Tryz.prog v (backV bs) (RBack w.heap.size A n c bs) ∧ RBack w.heap.size A n c bs w' ∧ w'.heap.size = w.heap.size + 1 ∧ Ext w w') := by
  apply calls105
  unfold S105
  apply newW_i
  have he := (Ext.refl w).alloc (.cells #[.slice A n c] 93)
  refine ⟨⟨_, _, rfl, by kernel_rfl, fun l J w' hJ hR hd hY => ?_⟩, ⟨Blk.new w #[.slice A n c] 93, h.ext he⟩, by simp, he⟩
  apply calls125
  exact back_walk (P := Tryz.prog) hJ hR hY
theorem octput_calls {w : World} {B : Nat} {A : Option Addr} {n c : Nat} {bs : List UInt8} {v k : Nat} (h : Own 5 w B A n c (bV bs)) (hB : B ≤ w.heap.size) (hn : n ≤ 140737488355000) (hv : v < 18446744073709551616) (hk1 : 1 ≤ k) (hk : k ≤ 8) :
    Calls Tryz.prog 58 #[.slice A n c, .int .u64 (v : Int), .int .i64 (k : Int)] w (Ret fun r w' => ∃ x : Option Addr × Nat × Nat, r = .slice x.1 x.2.1 x.2.2 ∧ Own 5 w' B x.1 x.2.1 x.2.2 (bV (bs ++ le k v)) ∧ Grew w w' (orow A) (orow x.1)) := by
  apply calls58
  unfold S58
  refine splitW_f (decide_eq_false (by omega)) ?_
  refine splitW_f (decide_eq_false (by omega)) ?_
  refine loopW_i (fun x w' => ∃ (A' : Option Addr) (c' i : Nat), i ≤ k ∧ x = ((A', n + i, c'), (i : Int), ()) ∧ Own 5 w' B A' (n + i) c' (bV (bs ++ le i v)) ∧ Grew w w' (orow A) (orow A')) (fun x => (k - x.2.1).toNat)
    ⟨A, c, 0, by omega, rfl, by simpa [le] using h, Grew.refl _ _⟩ ?_
  rintro _ w' ⟨A', c', i, hi, rfl, ho, hg⟩
  dsimp only
  have hB' : B ≤ w'.heap.size := Nat.le_trans hB hg.grown.size
  by_cases hlt : i < k
  · refine splitW_t (decide_eq_true (by omega)) ?_
    have e1 : IntKind.wrap .i64 ((8 : Int) * (i : Int)) = ((8 * i : Nat) : Int) := by
      rw [wrap_i64 (by omega) (by omega)]
      omega
    rw [e1]
    refine ⟨by omega, ?_⟩
    rw [ishr_nat .u64 v (8 * i) (by simp [IntKind.bits]; omega), wrap_u8_nat, Nat.pow_mul, show (2 : Nat) ^ 8 = 256 from rfl]
    have hone : ∀ y ∈ [Value.int .u8 ((UInt8.ofNat (v / 256 ^ i)).toNat : Int)], y.oneCell' = true := by
      intro y hy
      simp only [List.mem_singleton] at hy
      subst hy
      rfl
    refine append_new (ys := [Value.int .u8 ((UInt8.ofNat (v / 256 ^ i)).toNat : Int)]) elem_u8 ho hB' hone (by simp; omega) (by omega) ?_
    intro A2 c2 w2 ho2 hg2
    refine ⟨⟨A2, c2, i + 1, by omega, ?_, ?_, ?_⟩, ?_⟩
    · rw [wrap_i64 (by omega) (by omega)]; rfl
    · have e2 : bV (bs ++ le (i + 1) v) = bV (bs ++ le i v) ++ [Value.int .u8 ((UInt8.ofNat (v / 256 ^ i)).toNat : Int)] := by
        rw [le_succ, ← List.append_assoc, bV_append (bs ++ le i v)]
        rfl
      rw [e2]
      exact ho2
    · exact hg.step hg2
    · rw [wrap_i64 (by omega) (by omega)]; omega
  · obtain rfl : i = k := by omega
    refine splitW_f (decide_eq_false (by omega)) ?_
    exact ⟨(A', n + i, c'), rfl, ho, hg⟩
theorem lev_drop {bs : List UInt8} {j : Nat} (h : j < bs.length) : lev (bs.drop j) = (bs.getD j 0).toNat + 256 * lev (bs.drop (j + 1)) := by
  rw [List.drop_eq_getElem_cons h]
  simp [lev, h]
theorem octof_calls {w : World} {A : Option Addr} {n c : Nat} {bs : List UInt8} (h : Sl w A n (bV bs)) (hn : n ≤ 8) : Calls Tryz.prog 75 #[.slice A n c] w (Ret fun v w' => v = .int .u64 (lev bs : Int) ∧ Ext w w') := by
  apply calls75
  unfold S75
  have hl := h.blen
  apply newW_i
  have hr := Blk.new w #[.int .u64 (0 : Int)] 37
  have he := (Ext.refl w).alloc (.cells #[.int .u64 (0 : Int)] 37)
  generalize w.alloc (.cells #[.int .u64 (0 : Int)] 37) = w1 at hr he ⊢
  generalize hrr : w.heap.size = r at hr ⊢
  refine splitW_f (decide_eq_false (by omega)) ?_
  refine callW_of (back_calls (c := c) (h.ext he)) ?_
  rintro v w2 ⟨hit, hRb, hs2, he2⟩
  refine ⟨v, rfl, ?_⟩
  have hr2 := hr.ext he2
  have hrlt := hr.lt
  have he02 := he.trans he2
  have hsl : ∀ w', Ext w w' → Sl w' A n (bV bs) := fun w' e => h.ext e
  refine range_i (R := RBack w1.heap.size A n c bs) (fun i w' => Ext w w' ∧ Blk w' w1.heap.size [.slice A n c] 93 ∧ Blk w' r [.int .u64 (lev (bs.drop (n - i)) : Int)] 37) hit (fun i w' hI => ⟨hI.2.1, hsl _ hI.1⟩) (fun i w' hI => ⟨hI.1.drew, hI.2.1, hI.2.2⟩) ?_ ?_ ?_ ?_
  · rintro i w' w'' hsb ⟨h1, h2, h3⟩
    have hge : w.heap.size ≤ w2.heap.size := he02.size
    refine ⟨?_, ?_, ?_⟩
    · exact ⟨hsb.1.trans h1.os, hsb.2.1.trans h1.tape, hsb.2.2.1.trans h1.output, by have := h1.size; have := hsb.2.2.2.1; omega, fun k hk => (hsb.2.2.2.2 k (by omega) (by omega)).trans (h1.block k hk)⟩
    · exact (hsb.2.2.2.2 _ (by omega) (by omega)).trans h2
    · exact (hsb.2.2.2.2 _ (by omega) (by omega)).trans h3
  · intro o
    refine ⟨(he02.alloc _).alloc _, (hRb.1.alloc _).alloc _, ?_⟩
    have e : bs.drop (n - 0) = [] := List.drop_of_length_le (by omega)
    rw [e]
    exact (hr2.alloc _).alloc _
  · intro i hi w' N jump hI hsz hN
    rw [backV_length] at hi
    refine ⟨((bs.length - 1 - i : Nat), ((bs.getD (bs.length - 1 - i) 0).toNat : Int), ()), by simp [backV], ?_⟩
    obtain ⟨h1, h2, h3⟩ := hI
    dsimp only
    refine ldW_blk (x := (lev (bs.drop (n - i)) : Int)) h3 (by rfl) ?_
    refine stW_blk h3 (by simp) ?_
    have hb := (bs.getD (bs.length - 1 - i) 0).toNat_lt
    have hlv := lev_lt (bs.drop (n - i))
    have hlen : (bs.drop (n - i)).length = i := by rw [List.length_drop]; omega
    rw [hlen] at hlv
    have hpow : 256 ^ i * 256 ≤ 18446744073709551616 := by
      rw [show 256 ^ i * 256 = 256 ^ (i + 1) from rfl, show 18446744073709551616 = 256 ^ 8 from rfl]
      exact Nat.pow_le_pow_right (by omega) (by omega)
    have e1 : ior .u64 (ishl .u64 (lev (bs.drop (n - i)) : Int) (8 : Int)) (IntKind.wrap .u64 ((bs.getD (bs.length - 1 - i) 0).toNat : Int)) = (lev (bs.drop (n - (i + 1))) : Int) := by
      rw [show (8 : Int) = ((8 : Nat) : Int) from rfl, wrap_u64_nat (by omega), ishl_nat (k := .u64) rfl _ 8 (by simp [IntKind.bits])]
      rw [Nat.mod_eq_of_lt (show lev (bs.drop (n - i)) * 2 ^ 8 < 2 ^ IntKind.bits .u64 by show _ < 18446744073709551616; omega)]
      rw [ior_nat (k := .u64) rfl (show lev (bs.drop (n - i)) * 2 ^ 8 < 2 ^ IntKind.bits .u64 by show _ < 18446744073709551616; omega) (show _ < 18446744073709551616 by omega)]
      rw [Nat.mul_comm, ← Nat.two_pow_add_eq_or_of_lt (by omega)]
      have e2 : n - (i + 1) = bs.length - 1 - i := by omega
      rw [e2, lev_drop (j := bs.length - 1 - i) (by omega), show bs.length - 1 - i + 1 = n - i by omega]
      congr 1
      omega
    rw [e1]
    have hset := h3.set 0 (.int .u64 (lev (bs.drop (n - (i + 1))) : Int))
    refine hN _ ⟨h1.set (by simp only; omega) _, h2.other (by simp only; omega) _, hset⟩ (by simp) (fun k hk => ?_)
    exact Below.heap_setCell _ _ _ _ (by simp only; omega)
  · intro w' hI hsz hd
    obtain ⟨h1, h2, h3⟩ := hI
    rw [backV_length] at h3
    have e : bs.drop (n - bs.length) = bs := by rw [show n - bs.length = 0 by omega]; rfl
    rw [e] at h3
    show (ldW _ _ _) w'
    refine ldW_blk (x := (lev bs : Int)) h3 (by rfl) ?_
    refine stW_blk h3 (by simp) ?_
    have hset := h3.set 0 (.int .u64 (lev bs : Int))
    refine leave_i (by rw [Below.heap_setCell _ _ _ _ (by simp only; omega)]; exact hd) ?_
    show (ldW _ _ _) _
    refine ldW_blk (x := (lev bs : Int)) (show Blk _ r [.int .u64 (lev bs : Int)] 37 from ?_) (by rfl) ?_
    · exact (setO_other (by omega)).trans hset
    · exact ⟨rfl, (h1.set (by simp only; omega) _).setO (by have := he02.size; omega) _⟩
end Go.Proofs.YtjdmggaeagnolaaGreatDoor.V
/- Plain mathematics of checks (chapter 2): no program in sight. -/
namespace Go.Proofs.YtjdmggaeagnolaaGreatDoor.Crc
abbrev W32 := BitVec 32
def poly : W32 := 0x82f63b78#32
def bstep (v : W32) : W32 := (v >>> 1) ^^^ (if v.getLsbD 0 then poly else 0#32)
def bsteps : Nat → W32 → W32
  | 0, v => v
  | n + 1, v => bsteps n (bstep v)
def entry (i : Nat) : W32 := bsteps 8 (BitVec.ofNat 32 i)
def table : List W32 := (List.range 256).map entry
def step (t : List W32) (s : W32) (b : UInt8) : W32 := (s >>> 8) ^^^ t.getD ((s.setWidth 8) ^^^ b.toBitVec).toNat 0#32
def upd (t : List W32) (s : W32) (bs : List UInt8) : W32 := bs.foldl (step t) s
def sum (t : List W32) (bs : List UInt8) : W32 := ~~~ (upd t (~~~ 0#32) bs)
def crc (bs : List UInt8) : W32 := sum table bs
theorem bsteps_add (m n : Nat) : ∀ v, bsteps (m + n) v = bsteps n (bsteps m v) := by
  induction m with
  | zero => intro v; simp [bsteps]
  | succ m ih => intro v; rw [Nat.add_right_comm]; simp only [bsteps, ih]
end Go.Proofs.YtjdmggaeagnolaaGreatDoor.Crc
/- Bits turned within bytes, and what a check tells of them. It speaks of no program. -/
namespace Go.Proofs.YtjdmggaeagnolaaGreatDoor.Crc
open Go.Proofs.YtjdmggaeagnolaaGreatDoor.V (le lev le_length lev_le le_lev lev_lt le_succ)
def ob (f : Nat → Bool) : BitVec 8 := BitVec.ofNat 8 ((f 0).toNat + 2 * (f 1).toNat + 4 * (f 2).toNat + 8 * (f 3).toNat + 16 * (f 4).toNat + 32 * (f 5).toNat + 64 * (f 6).toNat + 128 * (f 7).toNat)
attribute [irreducible] ob
theorem getD_set (l : List UInt8) (k i : Nat) (x : UInt8) : (l.set k x).getD i 0 = if k = i ∧ k < l.length then x else l.getD i 0 := by
  simp only [List.getD_eq_getElem?_getD, List.getElem?_set]
  by_cases h : k = i
  · subst h
    by_cases h2 : k < l.length
    · simp [h2]
    · simp [h2, List.getElem?_eq_none (Nat.not_lt.1 h2)]
  · simp [h]
def bitsOf (b : BitVec 8) : List Bool := (List.range 8).map b.getLsbD
end Go.Proofs.YtjdmggaeagnolaaGreatDoor.Crc
/- Contracts of the package crc. -/
namespace Go.Proofs.YtjdmggaeagnolaaGreatDoor.V
open Go Go.Proofs Crc
def tabV (T : List W32) : List Value := T.map fun t => .int .u32 (t.toNat : Int)
theorem length_tabV (T : List W32) : (tabV T).length = T.length := by simp [tabV]
theorem tabV_get {T : List W32} {i : Nat} (h : i < T.length) : (tabV T)[i]? = some (.int .u32 ((T.getD i 0).toNat : Int)) := by
  simp [tabV, h]
theorem update_calls {w : World} {T : List W32} {s : W32} {A : Option Addr} {n c : Nat} {bs : List UInt8} (hT : T.length = 256) (h : Sl w A n (bV bs)) :
    Calls Tryz.prog 136 #[.agg (tabV T).toArray, .int .u32 (s.toNat : Int), .slice A n c] w (Ret fun v w' => v = .int .u32 ((upd T s bs).toNat : Int) ∧ Ext w w') := by
  apply calls136
  unfold S136
  apply newW_i
  have hb0 : Blk (w.alloc (.cells (tabV T).toArray 192)) w.heap.size (tabV T) 192 := by simpa using Blk.new w (tabV T).toArray _
  have he0 : Ext w (w.alloc (.cells (tabV T).toArray 192)) := (Ext.refl w).alloc _
  have hl := h.blen
  have hn := h.le
  generalize w.alloc (.cells (tabV T).toArray 192) = w1 at hb0 he0 ⊢
  refine loopW_i (fun x w' => w' = w1 ∧ ∃ i : Nat, i ≤ n ∧ x = (((upd T s (bs.take i)).toNat : Int), (i : Int), ())) (fun x => (n - x.2.1).toNat) ⟨rfl, 0, by omega, by simp [upd]⟩ ?_
  rintro _ w' ⟨rfl, i, hi, rfl⟩
  dsimp only
  have h1 := h.ext he0
  by_cases hlt : i < n
  · refine splitW_t (decide_eq_true (by omega)) ?_
    refine idx_byte h1 (by omega) (by omega) ?_
    have hidx : ixor .u8 (IntKind.wrap .u8 ((upd T s (bs.take i)).toNat : Int)) ((bs.getD (Int.toNat (i : Int)) 0).toNat : Int) = ((((upd T s (bs.take i)).setWidth 8) ^^^ (bs.getD i 0).toBitVec).toNat : Int) := by
      rw [wrap_u8_bv32, u8_toBitVec, ixor8]; rfl
    rw [hidx]
    have hx : (((upd T s (bs.take i)).setWidth 8) ^^^ (bs.getD i 0).toBitVec).toNat < 256 := (((upd T s (bs.take i)).setWidth 8) ^^^ (bs.getD i 0).toBitVec).isLt
    refine ⟨⟨by omega, by omega⟩, ?_⟩
    rw [Int.toNat_natCast, Nat.mul_one, add_mk, Nat.zero_add]
    refine ldW_blk hb0 (tabV_get (by omega)) ?_
    rw [wrap_i64_nat (by omega) (by omega)]
    refine ⟨⟨rfl, i + 1, by omega, ?_⟩, by omega⟩
    rw [show ishr .u32 ((upd T s (bs.take i)).toNat : Int) (8 : Int) = ((upd T s (bs.take i) >>> 8).toNat : Int) from ishr32 _ 8 (by omega), ixor32]
    have e : upd T s (bs.take (i + 1)) = Crc.step T (upd T s (bs.take i)) (bs.getD i 0) := by
      rw [List.take_succ_eq_append_getElem (by omega)]
      simp only [upd, List.foldl_append, List.foldl_cons, List.foldl_nil]
      rw [List.getD_eq_getElem?_getD, List.getElem?_eq_getElem (by omega)]
      rfl
    rw [e]
    rfl
  · obtain rfl : i = n := by omega
    refine splitW_f (decide_eq_false (by omega)) ?_
    rw [List.take_of_length_le (by omega)]
    exact ⟨rfl, he0⟩
theorem table_calls (w : World) : Calls Tryz.prog 123 #[] w (Ret fun v w' => v = .agg (tabV table).toArray ∧ Ext w w') := by
  apply calls123
  unfold S123
  apply newW_i
  have hz : (zeroC Tryz.prog 192).toList = List.replicate 256 (.int .u32 0) := by kernel_rfl
  have hb0 : Blk (w.alloc (.cells (zeroC Tryz.prog 192) 192)) w.heap.size (List.replicate 256 (.int .u32 0)) 192 := by rw [← hz]; exact Blk.new w _ _
  have he0 : Ext w (w.alloc (.cells (zeroC Tryz.prog 192) 192)) := (Ext.refl w).alloc _
  generalize w.alloc (.cells (zeroC Tryz.prog 192) 192) = w1 at hb0 he0 ⊢
  refine loopW_i (fun x w' => Ext w w' ∧ ∃ i : Nat, i ≤ 256 ∧ x = ((i : Int), ()) ∧ Blk w' w.heap.size (tabV (table.take i) ++ List.replicate (256 - i) (.int .u32 0)) 192) (fun x => (256 - x.1).toNat) ⟨he0, 0, by omega, rfl, hb0⟩ ?_
  rintro _ w' ⟨he, i, hi, rfl, hb⟩
  dsimp only
  by_cases hlt : i < 256
  · refine splitW_t (decide_eq_true (by omega)) ?_
    have e0 : IntKind.wrap .u32 (i : Int) = ((BitVec.ofNat 32 i).toNat : Int) := by
      rw [wrap_u32, BitVec.toNat_ofNat]; simp only [Nat.reducePow]; omega
    rw [e0]
    refine loopW_i (fun x w'' => w'' = w' ∧ ∃ k : Nat, k ≤ 8 ∧ x = (((bsteps k (BitVec.ofNat 32 i)).toNat : Int), (k : Int), ())) (fun x => (8 - x.2.1).toNat) ⟨rfl, 0, by omega, rfl⟩ ?_
    rintro _ _ ⟨rfl, k, hk, rfl⟩
    dsimp only
    by_cases hk8 : k < 8
    · refine splitW_t (decide_eq_true (by omega)) ?_
      rw [wrap_i64_nat (by omega) (by omega)]
      refine ⟨⟨rfl, k + 1, by omega, ?_⟩, by omega⟩
      generalize hv : bsteps k (BitVec.ofNat 32 i) = v
      have e1 : bsteps (k + 1) (BitVec.ofNat 32 i) = bstep v := by rw [bsteps_add, hv]; rfl
      rw [e1]
      have e2 : (v &&& 1#32) = if v.getLsbD 0 then 1#32 else 0#32 := by
        have : v.getLsbD 0 = v.toNat.testBit 0 := rfl
        apply BitVec.eq_of_toNat_eq
        rw [BitVec.toNat_and, this, Nat.testBit_zero]
        simp only [BitVec.toNat_ofNat, Nat.reducePow, Nat.reduceMod, Nat.and_one_is_mod]
        by_cases h : v.toNat % 2 = 1
        · simp [h]
        · simp [show v.toNat % 2 = 0 by omega]
      have e3 : IntKind.wrap .u32 ((2197175160 : Int) * (iand .u32 (v.toNat : Int) (1 : Int))) = ((if v.getLsbD 0 then poly else 0#32).toNat : Int) := by
        rw [show iand .u32 (v.toNat : Int) (1 : Int) = ((v &&& 1#32).toNat : Int) from iand32 v 1#32, e2]
        cases v.getLsbD 0 <;> decide
      rw [e3, show ishr .u32 (v.toNat : Int) (1 : Int) = ((v >>> 1).toNat : Int) from ishr32 v 1 (by omega), ixor32]
      rfl
    · obtain rfl : k = 8 := by omega
      refine splitW_f (decide_eq_false (by omega)) ?_
      refine ⟨⟨by omega, by omega⟩, ?_⟩
      rw [Int.toNat_natCast, Nat.mul_one, add_mk, Nat.zero_add]
      refine stW_blk hb (by simp [length_tabV, table]; omega) ?_
      rw [wrap_i64_nat (by omega) (by omega)]
      refine ⟨⟨he.set (by simp) _, i + 1, by omega, rfl, ?_⟩, by omega⟩
      have h2 := hb.set i (.int .u32 ((bsteps 8 (BitVec.ofNat 32 i)).toNat : Int))
      have e3 : (tabV (table.take i) ++ List.replicate (256 - i) (Value.int .u32 0)).set i (.int .u32 ((bsteps 8 (BitVec.ofNat 32 i)).toNat : Int)) = tabV (table.take (i + 1)) ++ List.replicate (256 - (i + 1)) (Value.int .u32 0) := by
        have ht : (tabV (table.take i)).length = i := by simp [length_tabV, table]; omega
        rw [List.set_append_right _ _ (by omega), ht, Nat.sub_self, show 256 - i = (256 - (i + 1)) + 1 by omega, List.replicate_succ, List.set_cons_zero]
        rw [List.take_add_one, show table[i]? = some (entry i) by simp [table, hlt]]
        simp [tabV, entry]
      rw [e3] at h2
      exact h2
  · obtain rfl : i = 256 := by omega
    refine splitW_f (decide_eq_false (by omega)) ?_
    have hb2 : Blk w' w.heap.size (tabV table) 192 := by
      have : table.take 256 = table := List.take_of_length_le (by simp [table])
      rw [this] at hb
      simpa using hb
    have hlen : (tabV table).length = 256 := by simp [length_tabV, table]
    have hone : ∀ v ∈ tabV table, v.oneCell' = true := by
      intro v hv
      obtain ⟨t, _, rfl⟩ := List.mem_map.1 hv
      rfl
    generalize tabV table = TT at hb2 hlen hone ⊢
    refine ⟨TT.toArray, by simpa using hlen, hb2.cellsAt, by simpa using hlen, ?_, ?_⟩
    · exact hb2.storable_from TT 0 (by omega) hone
    · have hb3 := hb2.setCells TT rfl
      exact ⟨TT.toArray, by simpa using hlen, hb3.cellsAt, rfl, he.setCells (by simp) _ _ _⟩
theorem sum_calls {w : World} {T : List W32} {A : Option Addr} {n c : Nat} {bs : List UInt8} (hT : T.length = 256) (h : Sl w A n (bV bs)) :
    Calls Tryz.prog 122 #[.agg (tabV T).toArray, .slice A n c] w (Ret fun v w' => v = .int .u32 ((sum T bs).toNat : Int) ∧ Ext w w') := by
  apply calls122
  unfold S122
  apply newW_i
  have hb0 : Blk (w.alloc (.cells (tabV T).toArray 192)) w.heap.size (tabV T) 192 := by simpa using Blk.new w (tabV T).toArray _
  have he0 : Ext w (w.alloc (.cells (tabV T).toArray 192)) := (Ext.refl w).alloc _
  have hlen : (tabV T).length = 256 := by rw [length_tabV, hT]
  generalize w.alloc (.cells (tabV T).toArray 192) = w1 at hb0 he0 ⊢
  refine ldR_blk (cs := (tabV T).toArray) hb0 (by simpa using hlen) ?_
  have hc := update_calls (w := w1) (T := T) (s := 4294967295#32) (c := c) hT (h.ext he0)
  refine callW_of hc ?_
  rintro _ w2 ⟨rfl, he⟩
  refine ⟨_, rfl, ?_⟩
  rw [inot32]
  exact ⟨rfl, he0.trans he⟩
theorem crc_calls {w : World} {A : Option Addr} {n c : Nat} {bs : List UInt8} (h : Sl w A n (bV bs)) : Calls Tryz.prog 102 #[.slice A n c] w (Ret fun v w' => v = .int .u32 ((crc bs).toNat : Int) ∧ Ext w w') := by
  apply calls102
  unfold S102
  refine callW_of (table_calls w) ?_
  rintro _ w1 ⟨rfl, he⟩
  refine ⟨(tabV table).toArray, rfl, ?_⟩
  refine callW_of (sum_calls (by simp [table]) (h.ext he)) ?_
  rintro _ w2 ⟨rfl, he2⟩
  exact ⟨_, rfl, rfl, he.trans he2⟩
end Go.Proofs.YtjdmggaeagnolaaGreatDoor.V
/- Contracts of the document's answer, chapter 2. -/
namespace Go.Proofs.YtjdmggaeagnolaaGreatDoor.V
open Go Go.Proofs Crc
theorem rupdate_calls {w : World} {T : List W32} {s : W32} {A : Option Addr} {n c : Nat} {bs : List UInt8} (hT : T.length = 256) (h : Sl w A n (bV bs)) :
    Calls Tryz.prog 141 #[.agg (tabV T).toArray, .int .u32 (s.toNat : Int), .slice A n c] w (Ret fun v w' => v = .int .u32 ((upd T s bs).toNat : Int) ∧ Ext w w') := by
  apply calls141
  unfold S141
  apply newW_i
  have hb0 : Blk (w.alloc (.cells (tabV T).toArray 192)) w.heap.size (tabV T) 192 := by simpa using Blk.new w (tabV T).toArray _
  have he0 : Ext w (w.alloc (.cells (tabV T).toArray 192)) := (Ext.refl w).alloc _
  have hl := h.blen
  have hn := h.le
  generalize w.alloc (.cells (tabV T).toArray 192) = w1 at hb0 he0 ⊢
  refine loopW_i (fun x w' => w' = w1 ∧ ∃ i : Nat, i ≤ n ∧ x = (((upd T s (bs.take i)).toNat : Int), (i : Int), ())) (fun x => (n - x.2.1).toNat) ⟨rfl, 0, by omega, by simp [upd]⟩ ?_
  rintro _ w' ⟨rfl, i, hi, rfl⟩
  dsimp only
  have h1 := h.ext he0
  by_cases hlt : i < n
  · refine splitW_t (decide_eq_true (by omega)) ?_
    refine idx_byte h1 (by omega) (by omega) ?_
    have hidx : ixor .u8 (IntKind.wrap .u8 ((upd T s (bs.take i)).toNat : Int)) ((bs.getD (Int.toNat (i : Int)) 0).toNat : Int) = ((((upd T s (bs.take i)).setWidth 8) ^^^ (bs.getD i 0).toBitVec).toNat : Int) := by
      rw [wrap_u8_bv32, u8_toBitVec, ixor8]; rfl
    rw [hidx]
    have hx : (((upd T s (bs.take i)).setWidth 8) ^^^ (bs.getD i 0).toBitVec).toNat < 256 := (((upd T s (bs.take i)).setWidth 8) ^^^ (bs.getD i 0).toBitVec).isLt
    refine ⟨⟨by omega, by omega⟩, ?_⟩
    rw [Int.toNat_natCast, Nat.mul_one, add_mk, Nat.zero_add]
    refine ldW_blk hb0 (tabV_get (by omega)) ?_
    rw [wrap_i64_nat (by omega) (by omega)]
    refine ⟨⟨rfl, i + 1, by omega, ?_⟩, by omega⟩
    rw [show ishr .u32 ((upd T s (bs.take i)).toNat : Int) (8 : Int) = ((upd T s (bs.take i) >>> 8).toNat : Int) from ishr32 _ 8 (by omega), ixor32]
    have e : upd T s (bs.take (i + 1)) = Crc.step T (upd T s (bs.take i)) (bs.getD i 0) := by
      rw [List.take_succ_eq_append_getElem (by omega)]
      simp only [upd, List.foldl_append, List.foldl_cons, List.foldl_nil]
      rw [List.getD_eq_getElem?_getD, List.getElem?_eq_getElem (by omega)]
      rfl
    rw [e]
    rfl
  · obtain rfl : i = n := by omega
    refine splitW_f (decide_eq_false (by omega)) ?_
    rw [List.take_of_length_le (by omega)]
    exact ⟨rfl, he0⟩
theorem rtable_calls (w : World) : Calls Tryz.prog 138 #[] w (Ret fun v w' => v = .agg (tabV table).toArray ∧ Ext w w') := by
  apply calls138
  unfold S138
  apply newW_i
  have he00 : Ext w (w.alloc (.cells (zeroC Tryz.prog 192) 192)) := (Ext.refl w).alloc _
  have hb00 : Blk (w.alloc (.cells (zeroC Tryz.prog 192) 192)) w.heap.size (zeroC Tryz.prog 192).toList 192 := Blk.new w _ _
  generalize w.alloc (.cells (zeroC Tryz.prog 192) 192) = w0 at he00 hb00 ⊢
  apply newW_i
  have hz : (zeroC Tryz.prog 192).toList = List.replicate 256 (.int .u32 0) := by kernel_rfl
  have hb0 : Blk (w0.alloc (.cells (zeroC Tryz.prog 192) 192)) w0.heap.size (List.replicate 256 (.int .u32 0)) 192 := by rw [← hz]; exact Blk.new w0 _ _
  have hb01 := hb00.alloc (.cells (zeroC Tryz.prog 192) 192)
  rw [hz] at hb01
  have hne : w.heap.size < w0.heap.size := hb00.lt
  have he0 : Ext w (w0.alloc (.cells (zeroC Tryz.prog 192) 192)) := he00.alloc _
  generalize w0.alloc (.cells (zeroC Tryz.prog 192) 192) = w1 at hb0 he0 hb01 ⊢
  refine loopW_i (fun x w' => Ext w w' ∧ ∃ i : Nat, i ≤ 256 ∧ x = ((i : Int), ()) ∧ Blk w' w0.heap.size (tabV (table.take i) ++ List.replicate (256 - i) (.int .u32 0)) 192 ∧ Blk w' w.heap.size (List.replicate 256 (.int .u32 0)) 192) (fun x => (256 - x.1).toNat) ⟨he0, 0, by omega, rfl, hb0, hb01⟩ ?_
  rintro _ w' ⟨he, i, hi, rfl, hb, hbr⟩
  dsimp only
  by_cases hlt : i < 256
  · refine splitW_t (decide_eq_true (by omega)) ?_
    have e0 : IntKind.wrap .u32 (i : Int) = ((BitVec.ofNat 32 i).toNat : Int) := by
      rw [wrap_u32, BitVec.toNat_ofNat]; simp only [Nat.reducePow]; omega
    rw [e0]
    refine loopW_i (fun x w'' => w'' = w' ∧ ∃ k : Nat, k ≤ 8 ∧ x = (((bsteps k (BitVec.ofNat 32 i)).toNat : Int), (k : Int), ())) (fun x => (8 - x.2.1).toNat) ⟨rfl, 0, by omega, rfl⟩ ?_
    rintro _ _ ⟨rfl, k, hk, rfl⟩
    dsimp only
    by_cases hk8 : k < 8
    · refine splitW_t (decide_eq_true (by omega)) ?_
      rw [wrap_i64_nat (by omega) (by omega)]
      generalize hv : bsteps k (BitVec.ofNat 32 i) = v
      have e1 : bsteps (k + 1) (BitVec.ofNat 32 i) = bstep v := by rw [bsteps_add, hv]; rfl
      have hlsb : v.getLsbD 0 = v.toNat.testBit 0 := rfl
      have e2 : Int.tmod (v.toNat : Int) (2 : Int) = ((v.toNat % 2 : Nat) : Int) := rfl
      have e3 : ishr .u32 (v.toNat : Int) (1 : Int) = ((v >>> 1).toNat : Int) := ishr32 v 1 (by omega)
      rw [e2, e3]
      refine splitW_i (fun h => ?_) (fun h => ?_)
      · have h1 : v.toNat % 2 = 1 := by have := of_decide_eq_true h; omega
        refine ⟨⟨rfl, k + 1, by omega, ?_⟩, by omega⟩
        rw [e1, bstep, hlsb, Nat.testBit_zero, h1, show ixor .u32 ((v >>> 1).toNat : Int) (2197175160 : Int) = ((v >>> 1 ^^^ poly).toNat : Int) from ixor32 _ poly]
        rfl
      · have h1 : v.toNat % 2 = 0 := by have := of_decide_eq_false h; omega
        refine ⟨⟨rfl, k + 1, by omega, ?_⟩, by omega⟩
        rw [e1, bstep, hlsb, Nat.testBit_zero, h1]
        simp
    · obtain rfl : k = 8 := by omega
      refine splitW_f (decide_eq_false (by omega)) ?_
      refine ⟨⟨by omega, by omega⟩, ?_⟩
      rw [Int.toNat_natCast, Nat.mul_one, add_mk, Nat.zero_add]
      refine stW_blk hb (by simp [length_tabV, table]; omega) ?_
      rw [wrap_i64_nat (by omega) (by omega)]
      refine ⟨⟨he.set (Nat.le_of_lt hne) _, i + 1, by omega, rfl, ?_, hbr.other (by simp only; omega) _⟩, by omega⟩
      have h2 := hb.set i (.int .u32 ((bsteps 8 (BitVec.ofNat 32 i)).toNat : Int))
      have e3 : (tabV (table.take i) ++ List.replicate (256 - i) (Value.int .u32 0)).set i (.int .u32 ((bsteps 8 (BitVec.ofNat 32 i)).toNat : Int)) = tabV (table.take (i + 1)) ++ List.replicate (256 - (i + 1)) (Value.int .u32 0) := by
        have ht : (tabV (table.take i)).length = i := by simp [length_tabV, table]; omega
        rw [List.set_append_right _ _ (by omega), ht, Nat.sub_self, show 256 - i = (256 - (i + 1)) + 1 by omega, List.replicate_succ, List.set_cons_zero]
        rw [List.take_add_one, show table[i]? = some (entry i) by simp [table, hlt]]
        simp [tabV, entry]
      rw [e3] at h2
      exact h2
  · obtain rfl : i = 256 := by omega
    refine splitW_f (decide_eq_false (by omega)) ?_
    have hb2 : Blk w' w0.heap.size (tabV table) 192 := by
      have : table.take 256 = table := List.take_of_length_le (by simp [table])
      rw [this] at hb
      simpa using hb
    have hlen : (tabV table).length = 256 := by simp [length_tabV, table]
    have hone : ∀ v ∈ tabV table, v.oneCell' = true := by
      intro v hv
      obtain ⟨t, _, rfl⟩ := List.mem_map.1 hv
      rfl
    generalize tabV table = TT at hb2 hlen hone ⊢
    refine ⟨TT.toArray, by simpa using hlen, hb2.cellsAt, by simpa using hlen, ?_, ?_⟩
    · exact hbr.storable_from TT 0 (by rw [hlen, List.length_replicate]; omega) hone
    · have hb3 := hbr.setCells TT (by rw [hlen, List.length_replicate])
      exact ⟨TT.toArray, by simpa using hlen, hb3.cellsAt, rfl, he.setCells (Nat.le_refl _) _ _ _⟩
theorem rsum_calls {w : World} {T : List W32} {A : Option Addr} {n c : Nat} {bs : List UInt8} (hT : T.length = 256) (h : Sl w A n (bV bs)) :
    Calls Tryz.prog 137 #[.agg (tabV T).toArray, .slice A n c] w (Ret fun v w' => v = .int .u32 ((sum T bs).toNat : Int) ∧ Ext w w') := by
  apply calls137
  unfold S137
  apply newW_i
  have hb0 : Blk (w.alloc (.cells (tabV T).toArray 192)) w.heap.size (tabV T) 192 := by simpa using Blk.new w (tabV T).toArray _
  have he0 : Ext w (w.alloc (.cells (tabV T).toArray 192)) := (Ext.refl w).alloc _
  have hlen : (tabV T).length = 256 := by rw [length_tabV, hT]
  generalize w.alloc (.cells (tabV T).toArray 192) = w1 at hb0 he0 ⊢
  refine ldR_blk (cs := (tabV T).toArray) hb0 (by simpa using hlen) ?_
  have hc := rupdate_calls (w := w1) (T := T) (s := 4294967295#32) (c := c) hT (h.ext he0)
  refine callW_of hc ?_
  rintro _ w2 ⟨rfl, he⟩
  refine ⟨_, rfl, ?_⟩
  rw [inot32]
  exact ⟨rfl, he0.trans he⟩
theorem rcrc_calls {w : World} {A : Option Addr} {n c : Nat} {bs : List UInt8} (h : Sl w A n (bV bs)) : Calls Tryz.prog 127 #[.slice A n c] w (Ret fun v w' => v = .int .u32 ((crc bs).toNat : Int) ∧ Ext w w') := by
  apply calls127
  unfold S127
  refine callW_of (rtable_calls w) ?_
  rintro _ w1 ⟨rfl, he⟩
  refine ⟨(tabV table).toArray, rfl, ?_⟩
  refine callW_of (rsum_calls (by simp [table]) (h.ext he)) ?_
  rintro _ w2 ⟨rfl, he2⟩
  exact ⟨_, rfl, rfl, he.trans he2⟩
end Go.Proofs.YtjdmggaeagnolaaGreatDoor.V
/- Contracts of the kit: Times, Str, Num, Row, Pair. -/
namespace Go.Proofs.YtjdmggaeagnolaaGreatDoor.V
open Go Go.Proofs Go.RowKit
end Go.Proofs.YtjdmggaeagnolaaGreatDoor.V
/- Devices: plain, and in memory. -/
namespace Go.Proofs.YtjdmggaeagnolaaGreatDoor.V
open Go Go.Proofs Go.RowKit Crc
def Only (F : Nat → Prop) (w w' : World) : Prop := w'.os = w.os ∧ w'.tape = w.tape ∧ w'.output = w.output ∧ w.heap.size ≤ w'.heap.size ∧ ∀ k : Nat, k < w.heap.size → ¬ F k → w'.heap[k]? = w.heap[k]?
theorem Only.of_ext {F : Nat → Prop} {w w' : World} (h : Ext w w') : Only F w w' := ⟨h.os, h.tape, h.output, h.size, fun k hk _ => h.block k hk⟩
theorem Only.refl (F : Nat → Prop) (w : World) : Only F w w := Only.of_ext (Ext.refl w)
theorem Only.of_grown {F : Nat → Prop} {w w' : World} {row : Option Nat} (h : w.grownBy w' row) (hr : ∀ j, row = some j → F j ∨ w.heap.size ≤ j) : Only F w w' := by
  refine ⟨h.os, h.tape, h.output, h.size, fun k hk hF => h.block k hk (fun e => ?_)⟩
  rcases hr k e.symm with h1 | h1
  · exact hF h1
  · omega
theorem Only.trans {F G : Nat → Prop} {a b c : World} (h : Only F a b) (k : Only G b c) (hG : ∀ j, G j → F j ∨ a.heap.size ≤ j) : Only F a c := by
  obtain ⟨h1, h2, h3, h4, h5⟩ := h
  obtain ⟨k1, k2, k3, k4, k5⟩ := k
  refine ⟨k1.trans h1, k2.trans h2, k3.trans h3, Nat.le_trans h4 k4, fun j hj hF => ?_⟩
  rw [k5 j (by omega) (fun hg => by rcases hG j hg with x | x; exact hF x; omega), h5 j hj hF]
theorem Only.ext {F : Nat → Prop} {a w w' : World} (h : Ext a w) (k : Only F w w') (hF : ∀ j, F j → a.heap.size ≤ j) : Ext a w' := by
  obtain ⟨k1, k2, k3, k4, k5⟩ := k
  refine ⟨k1.trans h.os, k2.trans h.tape, k3.trans h.output, Nat.le_trans h.size k4, fun j hj => ?_⟩
  rw [k5 j (by have := h.size; omega) (fun hg => by have := hF j hg; omega)]
  exact h.block j hj
theorem Blk.only {F : Nat → Prop} {w w' : World} {b : Nat} {cs : List Value} {t : TypeId} (h : Blk w b cs t) (k : Only F w w') (hb : ¬ F b) : Blk w' b cs t := (k.2.2.2.2 b h.lt hb).trans h
theorem Owni.only {α : Type} {E : Enc α} {e : TypeId} {F : Nat → Prop} {w w' : World} {B : Nat} {A : Option Addr} {n c : Nat} {xs : List α} (h : Owni E e w B A n c xs) (k : Only F w w') (hr : ∀ j, orow A = some j → ¬ F j) : Owni E e w' B A n c xs := by
  refine ⟨h.1, ?_⟩
  rcases h.2 with hn | ⟨g, cap, cur, hv, hb, hgg, rest⟩
  · exact .inl hn
  · refine .inr ⟨g, cap, cur, hv, hb, ?_, rest⟩
    have ha : orow A = some g := by
      injection hv with hv
      rw [hv]
      rfl
    rw [k.2.2.2.2 g (Array.getElem?_eq_some_iff.1 hgg).1 (hr g ha)]
    exact hgg
structure Dev where
  size : Int
  blocks : Int
  dur : List ByteArray
  pen : List (Int × ByteArray)
  ops : Int
  fuse : Int
def writeE : Enc (Int × ByteArray) where
  k := 2
  f x := [.int .i64 x.1, .string x.2]
  len _ := rfl
  one _ := by
    intro v hv
    simp only [List.mem_cons, List.not_mem_nil, or_false] at hv
    rcases hv with rfl | rfl <;> rfl
  pos := by decide
structure Dev.Ok (d : Dev) : Prop where
  geo : geoOK d.size d.blocks = true
  len : (d.dur.length : Int) = d.blocks
  each : ∀ s ∈ d.dur, (s.size : Int) = d.size
  pend : ∀ p ∈ d.pen, 0 ≤ p.1 ∧ p.1 < d.blocks ∧ (p.2.size : Int) = d.size
  fuse : -1 ≤ d.fuse ∧ d.fuse < 9223372036854775808
def Dev.there (d : Dev) (k : Int) : Bool := decide (0 ≤ k ∧ k < d.blocks)
def Dev.burnt (d : Dev) : Dev := { d with fuse := max (-1) (d.fuse - 1), ops := IntKind.wrap .i64 (d.ops + 1) }
def Dev.write (d : Dev) (k : Int) (s : ByteArray) : Dev × Int :=
  if ¬ (0 ≤ k ∧ k < d.blocks) ∨ (s.size : Int) ≠ d.size then (d, 2)
  else if d.fuse = 0 then (d, 8)
  else ({ d.burnt with pen := d.pen ++ [(k, s)] }, 0)
def put (l : List ByteArray) (p : Int × ByteArray) : List ByteArray := l.set p.1.toNat p.2
def Dev.flush (d : Dev) : Dev × Int := if d.fuse = 0 then (d, 8) else ({ d.burnt with dur := d.pen.foldl put d.dur, pen := [] }, 0)
def Dev.read (d : Dev) (k : Int) : ByteArray × Int :=
  if ¬ (0 ≤ k ∧ k < d.blocks) then (ByteArray.empty, 2)
  else ((d.pen.foldl put d.dur).getD k.toNat ByteArray.empty, 0)
structure DevAt (w : World) (b : Nat) (d : Dev) (F : Nat → Prop) : Prop where
  mem : ∃ (Ad Ap : Option Addr) (nd cd np cp : Nat) (t : TypeId), Blk w b [.int .i64 d.size, .int .i64 d.blocks, .slice Ad nd cd, .slice Ap np cp, .int .i64 d.ops, .int .i64 d.fuse] t
    ∧ Owni strE 9 w 0 Ad nd cd d.dur ∧ Owni writeE 99 w 0 Ap np cp d.pen ∧ (∀ k, F k ↔ k = b ∨ orow Ad = some k ∨ orow Ap = some k) ∧ orow Ad ≠ some b ∧ orow Ap ≠ some b ∧ (∀ j, orow Ad = some j → orow Ap ≠ some j)
  ok : d.Ok
theorem DevAt.lt {w : World} {b : Nat} {d : Dev} {F : Nat → Prop} (h : DevAt w b d F) : ∀ k, F k → k < w.heap.size := by
  obtain ⟨Ad, Ap, nd, cd, np, cp, t, hb, hd, hp, hF, _⟩ := h.mem
  intro k hk
  rcases (hF k).1 hk with rfl | h | h
  · exact hb.lt
  · exact hd.row_lt k h
  · exact hp.row_lt k h
theorem DevAt.box {w : World} {b : Nat} {d : Dev} {F : Nat → Prop} (h : DevAt w b d F) : F b := by
  obtain ⟨Ad, Ap, nd, cd, np, cp, t, hb, hd, hp, hF, _⟩ := h.mem
  exact (hF b).2 (.inl rfl)
theorem DevAt.apart {w w' : World} {b : Nat} {d : Dev} {F G : Nat → Prop} (h : DevAt w b d F) (k : Only G w w') (hFG : ∀ j, F j → ¬ G j) : DevAt w' b d F := by
  refine ⟨?_, h.ok⟩
  obtain ⟨Ad, Ap, nd, cd, np, cp, t, hb, hd, hp, hF, h1, h2, h3⟩ := h.mem
  exact ⟨Ad, Ap, nd, cd, np, cp, t, hb.only k (hFG b ((hF b).2 (.inl rfl))), hd.only k (fun j hj => hFG j ((hF j).2 (.inr (.inl hj)))), hp.only k (fun j hj => hFG j ((hF j).2 (.inr (.inr hj)))), hF, h1, h2, h3⟩
end Go.Proofs.YtjdmggaeagnolaaGreatDoor.V
/- Contracts of the library at this dump: written by the kit's own tools (lay-shelf, lay-plain), pruned to what is used. -/
namespace Go.Proofs
open Go.Shelf
def Tryz.lays212_ren : Go.Shelf.Ren := ⟨fun | 212 => 113 | 263 => 131 | 264 => 132 | n => n, fun | 46 => 57 | 51 => 31 | 146 => 197 | 53 => 37 | 148 => 199 | n => n, fun | n => n⟩
theorem Tryz.lays212 : Go.Proofs.Lays.n212 Tryz.prog Tryz.lays212_ren := {
  mixed := by kernel_rfl
  f212 := Tryz.func113.trans (congrArg some (by kernel_rfl))
  f263 := Tryz.func131.trans (congrArg some (by kernel_rfl))
  f264 := Tryz.func132.trans (congrArg some (by kernel_rfl))
  t46 := Tryz.underlying57
  a46 := Tryz.isAgg57
  z46 := Tryz.sizeOf57
  v46 := Tryz.zeroValue57
  t51 := Tryz.underlying31
  a51 := Tryz.isAgg31
  z51 := Tryz.sizeOf31
  v51 := Tryz.zeroValue31
  t53 := Tryz.underlying37
  a53 := Tryz.isAgg37
  z53 := Tryz.sizeOf37
  v53 := Tryz.zeroValue37
  t146 := Tryz.underlying197
  a146 := Tryz.isAgg197
  z146 := Tryz.sizeOf197
  v146 := Tryz.zeroValue197
  t148 := Tryz.underlying199
  a148 := Tryz.isAgg199
  z148 := Tryz.sizeOf199
  v148 := Tryz.zeroValue199 }
open Go.RowKit Go.Lib in
theorem Tryz.bits_Mul (x y : Nat) (hx : x < 18446744073709551616) (hy : y < 18446744073709551616) (w : World) :
    Calls Tryz.prog 113 #[.int .u64 x, .int .u64 y] w fun e w' => e = .returned (.tuple #[.int .u64 ((x * y / 18446744073709551616 : Nat) : Int), .int .u64 ((x * y % 18446744073709551616 : Nat) : Int)]) ∧ w' = w := Any.bits_Mul Tryz.lays212 x y hx hy w
def Tryz.lays105_ren : Go.Shelf.Ren := ⟨fun | 105 => 92 | 212 => 113 | 99 => 114 | 165 => 115 | 166 => 116 | 170 => 117 | 169 => 118 | 263 => 131 | 264 => 132 | 206 => 133 | 240 => 134 | 241 => 135 | 276 => 139 | 277 => 140 | n => n, fun | 9 => 9 | 3 => 3 | 4 => 4 | 20 => 20 | 0 => 0 | 46 => 57 | 109 => 178 | 5 => 5 | 72 => 182 | 76 => 185 | 51 => 31 | 146 => 197 | 53 => 37 | 148 => 199 | 70 => 180 | 37 => 93 | 75 => 184 | 127 => 201 | 164 => 203 | 80 => 187 | n => n, fun | n => n⟩
theorem Tryz.lays105 : Go.Proofs.Lays.n105 Tryz.prog Tryz.lays105_ren := {
  mixed := by kernel_rfl
  f99 := Tryz.func114.trans (congrArg some (by kernel_rfl))
  f105 := Tryz.func92.trans (congrArg some (by kernel_rfl))
  f165 := Tryz.func115.trans (congrArg some (by kernel_rfl))
  f166 := Tryz.func116.trans (congrArg some (by kernel_rfl))
  f169 := Tryz.func118.trans (congrArg some (by kernel_rfl))
  f170 := Tryz.func117.trans (congrArg some (by kernel_rfl))
  f206 := Tryz.func133.trans (congrArg some (by kernel_rfl))
  f212 := Tryz.func113.trans (congrArg some (by kernel_rfl))
  f240 := Tryz.func134.trans (congrArg some (by kernel_rfl))
  f241 := Tryz.func135.trans (congrArg some (by kernel_rfl))
  f263 := Tryz.func131.trans (congrArg some (by kernel_rfl))
  f264 := Tryz.func132.trans (congrArg some (by kernel_rfl))
  f276 := Tryz.func139.trans (congrArg some (by kernel_rfl))
  f277 := Tryz.func140.trans (congrArg some (by kernel_rfl))
  t0 := Tryz.underlying0
  a0 := Tryz.isAgg0
  z0 := Tryz.sizeOf0
  v0 := Tryz.zeroValue0
  t3 := Tryz.underlying3
  a3 := Tryz.isAgg3
  z3 := Tryz.sizeOf3
  v3 := Tryz.zeroValue3
  t4 := Tryz.underlying4
  a4 := Tryz.isAgg4
  z4 := Tryz.sizeOf4
  v4 := Tryz.zeroValue4
  t5 := Tryz.underlying5
  a5 := Tryz.isAgg5
  z5 := Tryz.sizeOf5
  v5 := Tryz.zeroValue5
  t9 := Tryz.underlying9
  a9 := Tryz.isAgg9
  z9 := Tryz.sizeOf9
  v9 := Tryz.zeroValue9
  t20 := Tryz.underlying20
  a20 := Tryz.isAgg20
  z20 := Tryz.sizeOf20
  v20 := Tryz.zeroValue20
  t37 := Tryz.underlying93
  a37 := Tryz.isAgg93
  z37 := Tryz.sizeOf93
  v37 := Tryz.zeroValue93
  t46 := Tryz.underlying57
  a46 := Tryz.isAgg57
  z46 := Tryz.sizeOf57
  v46 := Tryz.zeroValue57
  t51 := Tryz.underlying31
  a51 := Tryz.isAgg31
  z51 := Tryz.sizeOf31
  v51 := Tryz.zeroValue31
  t53 := Tryz.underlying37
  a53 := Tryz.isAgg37
  z53 := Tryz.sizeOf37
  v53 := Tryz.zeroValue37
  t70 := Tryz.underlying180
  a70 := Tryz.isAgg180
  z70 := Tryz.sizeOf180
  v70 := Tryz.zeroValue180
  t72 := Tryz.underlying182
  a72 := Tryz.isAgg182
  z72 := Tryz.sizeOf182
  v72 := Tryz.zeroValue182
  t75 := Tryz.underlying184
  a75 := Tryz.isAgg184
  z75 := Tryz.sizeOf184
  v75 := Tryz.zeroValue184
  t76 := Tryz.underlying185
  a76 := Tryz.isAgg185
  z76 := Tryz.sizeOf185
  v76 := Tryz.zeroValue185
  t109 := Tryz.underlying178
  a109 := Tryz.isAgg178
  z109 := Tryz.sizeOf178
  v109 := Tryz.zeroValue178
  t127 := Tryz.underlying201
  a127 := Tryz.isAgg201
  z127 := Tryz.sizeOf201
  v127 := Tryz.zeroValue201
  t146 := Tryz.underlying197
  a146 := Tryz.isAgg197
  z146 := Tryz.sizeOf197
  v146 := Tryz.zeroValue197
  t148 := Tryz.underlying199
  a148 := Tryz.isAgg199
  z148 := Tryz.sizeOf199
  v148 := Tryz.zeroValue199
  t164 := Tryz.underlying203
  a164 := Tryz.isAgg203
  z164 := Tryz.sizeOf203
  v164 := Tryz.zeroValue203 }
theorem Tryz.Builder_Extra_105 : Builder.Extra Tryz.prog Tryz.lays105_ren := {
  sizeBuilder := by kernel_rfl
  liesBuilder := by kernel_rfl
  t5 := Tryz.underlying5
  a5 := Tryz.isAgg5
  z5 := Tryz.sizeOf5
  v5 := Tryz.zeroValue5
  infoByte := by kernel_rfl
  cellsByte := by kernel_rfl
  sizeByte := by kernel_rfl
  neB5 := by decide }
open Go.RowKit Go.Lib in
theorem Tryz.strings_Repeat (s : ByteArray) (c : Nat) (w : World) (hc : c ≤ 9223372036854775807) (hlen : s.size * c ≤ 140737488355328) :
    Calls Tryz.prog 92 #[.string s, .int .i64 c] w fun e w' => e = .returned (.string ⟨(Lib.repeatL s.data.toList c).toArray⟩) ∧ Below w.heap.size w w' := Any.strings_Repeat Tryz.lays105 Tryz.Builder_Extra_105 s c w hc hlen
end Go.Proofs
/- Contracts of octet.Reader. -/
namespace Go.Proofs.YtjdmggaeagnolaaGreatDoor.V
open Go Go.Proofs Go.RowKit
theorem set_grown (w : World) (b o : Nat) (v : Value) : w.grownBy (w.setCell ⟨b, o, none⟩ v) (some b) := by
  refine ⟨rfl, rfl, rfl, by simp, fun k hk hne => Below.heap_setCell _ _ _ _ ?_⟩
  intro e
  exact hne (by rw [e])
def Rdr (w : World) (lo b : Nat) (bs : List UInt8) : Prop := ∃ (A : Option Addr) (n c : Nat) (t : TypeId), Blk w b [.slice A n c] t ∧ Sl w A n (bV bs) ∧ n ≤ c ∧ (∀ a, A = some a → lo ≤ a.block ∧ a.block < b) ∧ lo ≤ b
theorem Rdr.lt {w : World} {lo b : Nat} {bs : List UInt8} (h : Rdr w lo b bs) : b < w.heap.size := by
  obtain ⟨A, n, c, t, hb, _⟩ := h
  exact hb.lt
theorem Rdr.ext {w w' : World} {lo b : Nat} {bs : List UInt8} (h : Rdr w lo b bs) (he : Ext w w') : Rdr w' lo b bs := by
  obtain ⟨A, n, c, t, hb, hs, hc, ha, hlo⟩ := h
  exact ⟨A, n, c, t, hb.ext he, hs.ext he, hc, ha, hlo⟩
theorem Rdr.grown {w w' : World} {lo b : Nat} {bs : List UInt8} {row : Option Nat} (h : Rdr w lo b bs) (hg : w.grownBy w' row) (hr : ∀ j, row = some j → j < lo ∨ b < j) : Rdr w' lo b bs := by
  obtain ⟨A, n, c, t, hb, hs, hc, ha, hlo⟩ := h
  refine ⟨A, n, c, t, hb.grown hg ?_, hs.grown hg ?_, hc, ha, hlo⟩
  · intro e
    have := hr b e.symm
    omega
  · intro a e e2
    have := hr a.block e2.symm
    have := ha a e
    omega
def rd (bs : List UInt8) (k : Nat) : Nat × Int × List UInt8 := if bs.length < k then (0, 7, bs) else (lev (bs.take k), 0, bs.drop k)
theorem onew_calls {w : World} {A : Option Addr} {n c : Nat} {bs : List UInt8} (h : Sl w A n (bV bs)) (hn : n ≤ 140737488355328) :
    Calls Tryz.prog 98 #[.slice A n c] w (Ret fun v w' => ∃ b, v = .pointer (some ⟨b, 0, none⟩) ∧ w.heap.size ≤ b ∧ Rdr w' w.heap.size b bs ∧ Ext w w') := by
  apply calls98
  unfold S98
  refine callW_of (clone_calls h hn) ?_
  rintro _ w1 ⟨⟨A1, n1, c1⟩, rfl, ho1, he1⟩
  refine ⟨(A1, n1, c1), rfl, ?_⟩
  refine new_i fun r2 w2 hb2 he2 hr2 _ => ?_
  have hsz := he1.size
  refine ⟨r2, rfl, by omega, ⟨A1, n1, c1, _, hb2, (ho1.ext he2).sl, ho1.le.1, fun a ha => ?_, by omega⟩, he1.trans he2⟩
  have hge := ho1.row a.block (by rw [orow_eq]; dsimp only; subst ha; rfl)
  have hlt := (own_from ho1 (k := a.block) (by rw [orow_eq]; dsimp only; subst ha; rfl)).2
  omega
theorem otake_calls {w : World} {lo b k : Nat} {bs : List UInt8} (h : Rdr w lo b bs) (hk : k ≤ 1000000) :
    Calls Tryz.prog 121 #[.pointer (some ⟨b, 0, none⟩), .int .i64 (k : Int)] w (Ret fun v w' => ∃ A n c, v = .tuple #[.slice A n c, .int .i64 (rd bs k).2.1] ∧ Sl w' A n (bV (if bs.length < k then [] else bs.take k)) ∧ Rdr w' lo b (rd bs k).2.2 ∧ w.grownBy w' (some b)) := by
  obtain ⟨A, n, c, t, hb, hs, hc, ha, hlo⟩ := h
  have hl := hs.blen
  apply calls121
  unfold S121 rd
  refine ptr_i (box0 (A, n, c) hb (by rfl) ?_)
  refine splitW_i (fun hq => ?_) (fun hq => ?_)
  · have hq : (n : Int) < (k : Int) := of_decide_eq_true hq
    rw [if_pos (by omega), if_pos (by omega)]
    exact ⟨none, 0, 0, rfl, Sl.nil w none, ⟨A, n, c, t, hb, hs, hc, ha, hlo⟩, grownBy_refl _ _⟩
  have hq : ¬ (n : Int) < (k : Int) := of_decide_eq_false hq
  rw [if_neg (by omega), if_neg (by omega)]
  refine ptr_i (box0 (A, n, c) hb (by rfl) (guard_i ⟨by omega, by omega, by dsimp only; omega⟩ ?_))
  refine ptr_i (box0 (A, n, c) hb (by rfl) (guard_i ⟨by omega, by dsimp only; omega⟩ ?_))
  dsimp only
  rw [Int.toNat_natCast]
  refine ptr_i (stW_blk hb (by simp) ?_)
  have hg := set_grown w b 0 (.slice (cutAddr A k c 1) (n - k) (c - k))
  have hb' := hb.set 0 (.slice (cutAddr A k c 1) (n - k) (c - k))
  have keep : ∀ {A' : Option Addr} {n' : Nat} {bs' : List UInt8}, Sl w A' n' (bV bs') → (∀ a, A' = some a → lo ≤ a.block ∧ a.block < b) → Sl (w.setCell ⟨b, 0, none⟩ (.slice (cutAddr A k c 1) (n - k) (c - k))) A' n' (bV bs') := fun hs ha => hs.grown hg (fun a e e2 => by injection e2 with e2; have := ha a e; omega)
  have cut : ∀ (l m : Nat) (a : Addr), cutAddr A l m 1 = some a → lo ≤ a.block ∧ a.block < b := by
    intro l m a e
    unfold cutAddr at e
    cases A with
    | none => revert e; split <;> simp
    | some a0 =>
      have := ha a0 rfl
      revert e
      split
      · intro e; first | (injection e with e; subst e; exact this) | cases e
      · intro e
        simp only [Option.map_some, Option.some.injEq] at e
        subst e
        unfold Addr.add
        split <;> exact this
  refine ⟨cutAddr A 0 k 1, k, k, rfl, ?_, ⟨cutAddr A k c 1, n - k, c - k, t, hb', ?_, by omega, cut k c, hlo⟩, hg⟩
  · refine keep ?_ (cut 0 k)
    have := hs.cut0 (k := k) (m := k) (by omega) (by omega)
    rw [bV_take] at this
    exact this
  · refine keep ?_ (cut k c)
    have := hs.cut (l := k) (k := n - k) (m := c) (by omega) (by omega)
    rw [bV_drop, bV_take, List.take_of_length_le (by rw [List.length_drop]; omega)] at this
    exact this
theorem number_calls {w : World} {lo b k : Nat} {bs : List UInt8} (h : Rdr w lo b bs) (hk1 : 1 ≤ k) (hk : k ≤ 8) :
    Calls Tryz.prog 99 #[.pointer (some ⟨b, 0, none⟩), .int .i64 (k : Int)] w (Ret fun v w' => v = .tuple #[.int .u64 ((rd bs k).1 : Int), .int .i64 (rd bs k).2.1] ∧ Rdr w' lo b (rd bs k).2.2 ∧ w.grownBy w' (some b)) := by
  apply calls99
  unfold S99
  refine splitW_f (by rfl) (splitW_f (decide_eq_false (by omega)) (splitW_f (decide_eq_false (by omega)) ?_))
  refine callW_of (otake_calls h (by omega)) ?_
  rintro _ w1 ⟨A, n, c, rfl, hs, hr, hg⟩
  refine ⟨((A, n, c), (rd bs k).2.1, ()), rfl, ?_⟩
  have hl := hs.blen
  have hn : n ≤ 8 := by
    split at hl
    · simp only [List.length_nil] at hl; omega
    · rw [List.length_take] at hl; omega
  refine callW_of (octof_calls hs hn) ?_
  rintro _ w2 ⟨rfl, he2⟩
  refine ⟨_, rfl, ⟨?_, hr.ext he2, grownBy_tr hg (grownBy_of_ext he2 none) (fun j hj => by cases hj)⟩⟩
  dsimp only
  unfold rd
  split <;> rfl
end Go.Proofs.YtjdmggaeagnolaaGreatDoor.V
/- Contracts of the package device. -/
namespace Go.Proofs.YtjdmggaeagnolaaGreatDoor.V
open Go Go.Proofs Go.RowKit Crc
def Step (w : World) (b : Nat) (F : Nat → Prop) (d' : Dev) (w' : World) : Prop := ∃ F' : Nat → Prop, DevAt w' b d' F' ∧ (∀ k, F' k → F k ∨ w.heap.size ≤ k) ∧ Only F w w'
theorem there_calls {w : World} {b : Nat} {d : Dev} {F : Nat → Prop} (h : DevAt w b d F) (k : Int) :
    Calls Tryz.prog 39 #[.pointer (some ⟨b, 0, none⟩), .int .i64 k] w (Ret fun v w' => v = .bool (d.there k) ∧ w' = w) := by
  obtain ⟨Ad, Ap, nd, cd, np, cp, t, hb, hd, hp, hF, h1, h2, h3⟩ := h.mem
  apply calls39
  unfold S39 Dev.there
  refine splitW_i (fun hz => ?_) (fun hz => ?_)
  · have hz := of_decide_eq_true hz
    refine ptr_i (boxF 1 d.blocks hb (by rfl) ⟨?_, rfl⟩)
    congr 1
    exact decide_eq_decide.2 (by omega)
  · have hz := of_decide_eq_false hz
    refine ⟨?_, rfl⟩
    congr 1
    exact (decide_eq_false (by omega)).symm
theorem DevAt.put {w : World} {b o : Nat} {d d' : Dev} {F : Nat → Prop} {v : Value} (h : DevAt w b d F) (ho : ∀ Ad nd cd Ap np cp, ([.int .i64 d.size, .int .i64 d.blocks, .slice Ad nd cd, .slice Ap np cp, .int .i64 d.ops, .int .i64 d.fuse] : List Value).set o v = [.int .i64 d'.size, .int .i64 d'.blocks, .slice Ad nd cd, .slice Ap np cp, .int .i64 d'.ops, .int .i64 d'.fuse])
    (hd' : d'.dur = d.dur) (hp' : d'.pen = d.pen) (hok : d'.Ok) : DevAt (w.setCell ⟨b, o, none⟩ v) b d' F := by
  obtain ⟨Ad, Ap, nd, cd, np, cp, t, hb, hd, hp, hF, h1, h2, h3⟩ := h.mem
  have hg := set_grown w b o v
  refine ⟨⟨Ad, Ap, nd, cd, np, cp, t, ?_, ?_, ?_, hF, h1, h2, h3⟩, hok⟩
  · rw [← ho Ad nd cd Ap np cp]; exact hb.set o v
  · rw [hd']; exact hd.grown hg (fun j hj e => by injection hj with hj; subst hj; exact h1 e)
  · rw [hp']; exact hp.grown hg (fun j hj e => by injection hj with hj; subst hj; exact h2 e)
theorem Dev.Ok.burnt {d : Dev} (h : d.Ok) : d.burnt.Ok := by
  refine ⟨h.geo, h.len, h.each, h.pend, ?_⟩
  have := h.fuse
  show -1 ≤ max (-1) (d.fuse - 1) ∧ max (-1) (d.fuse - 1) < 9223372036854775808
  omega
theorem done_calls {w : World} {b : Nat} {d : Dev} {F : Nat → Prop} (h : DevAt w b d F) :
    Calls Tryz.prog 108 #[.pointer (some ⟨b, 0, none⟩)] w (Ret fun v w' => (d.fuse = 0 ∧ v = .bool false ∧ w' = w) ∨ (d.fuse ≠ 0 ∧ v = .bool true ∧ DevAt w' b d.burnt F ∧ w.grownBy w' (some b))) := by
  obtain ⟨Ad, Ap, nd, cd, np, cp, t, hb, hd, hp, hF, h1, h2, h3⟩ := h.mem
  have hf := h.ok.fuse
  apply calls108
  unfold S108
  refine ptr_i (boxF 5 d.fuse hb (by rfl) (splitW_i (fun hz => .inl ⟨beq_iff_eq.1 hz, rfl, rfl⟩) (fun hz => ?_)))
  have hz := beq_eq_false_iff_ne.1 hz
  have ef : (if IntKind.wrap .i64 (d.fuse - 1) > -1 then IntKind.wrap .i64 (d.fuse - 1) else -1) = max (-1) (d.fuse - 1) := by
    rw [wrap_i64 (by omega) (by omega)]
    split <;> omega
  refine ptr_i (boxF 5 d.fuse hb (by rfl) ?_)
  rw [ef]
  refine ptr_i ?_
  rw [add_mk]
  refine stW_blk hb (by show 0 + 5 < 6; omega) ?_
  have hg1 := set_grown w b (0 + 5) (.int .i64 (max (-1) (d.fuse - 1)))
  have hD := h.put (d' := { d with fuse := max (-1) (d.fuse - 1) }) (o := 0 + 5) (v := .int .i64 (max (-1) (d.fuse - 1))) (fun _ _ _ _ _ _ => rfl) rfl rfl ⟨h.ok.geo, h.ok.len, h.ok.each, h.ok.pend, by dsimp only; omega⟩
  have hb1 := hb.set (0 + 5) (.int .i64 (max (-1) (d.fuse - 1)))
  generalize w.setCell ⟨b, 0 + 5, none⟩ (.int .i64 (max (-1) (d.fuse - 1))) = w1 at hg1 hD hb1 ⊢
  refine ptr_i (boxF 4 d.ops hb1 (by rfl) (ptr_i ?_))
  rw [add_mk]
  refine stW_blk hb1 (by show 0 + 4 < 6; omega) ?_
  have hg2 := set_grown w1 b (0 + 4) (.int .i64 (IntKind.wrap .i64 (d.ops + 1)))
  have hD2 := hD.put (d' := d.burnt) (o := 0 + 4) (v := .int .i64 (IntKind.wrap .i64 (d.ops + 1))) (fun _ _ _ _ _ _ => rfl) rfl rfl h.ok.burnt
  exact .inr ⟨hz, rfl, hD2, grownBy_tr hg1 hg2 (fun j hj => .inl hj)⟩
theorem fuse_calls {w : World} {b : Nat} {d : Dev} {F : Nat → Prop} (h : DevAt w b d F) {n : Int} (hn : n < 9223372036854775808) :
    Calls Tryz.prog 13 #[.pointer (some ⟨b, 0, none⟩), .int .i64 n] w (Ret fun v w' => v = .tuple #[] ∧ Step w b F { d with fuse := max (-1) n } w') := by
  obtain ⟨Ad, Ap, nd, cd, np, cp, t, hb, hd, hp, hF, h1, h2, h3⟩ := h.mem
  apply calls13
  unfold S13
  have ef : (if n > -1 then n else -1) = max (-1) n := by split <;> omega
  refine splitW_t (by rfl) (ptr_i ?_)
  rw [ef, add_mk]
  refine stW_blk hb (by show 0 + 5 < 6; omega) ?_
  have hg1 := set_grown w b (0 + 5) (.int .i64 (max (-1) n))
  have hD := h.put (d' := { d with fuse := max (-1) n }) (o := 0 + 5) (v := .int .i64 (max (-1) n)) (fun _ _ _ _ _ _ => rfl) rfl rfl ⟨h.ok.geo, h.ok.len, h.ok.each, h.ok.pend, by dsimp only; omega⟩
  exact ⟨rfl, F, hD, fun k hk => .inl hk, Only.of_grown hg1 (fun j hj => by injection hj with hj; subst hj; exact .inl h.box)⟩
theorem elem_write : ElemK Tryz.prog 52 99 (.agg #[.int .i64 0, .string ByteArray.empty]) 2 24 := ⟨by kernel_rfl, by kernel_rfl, by kernel_rfl⟩
theorem write_calls {w : World} {b : Nat} {d : Dev} {F : Nat → Prop} (h : DevAt w b d F) (k : Int) (s : ByteArray) (hn : d.pen.length ≤ 1000000) :
    Calls Tryz.prog 84 #[.pointer (some ⟨b, 0, none⟩), .int .i64 k, .string s] w (Ret fun v w' => v = .int .i64 (d.write k s).2 ∧ Step w b F (d.write k s).1 w') := by
  have stay : ∀ {w' : World}, w' = w → Step w b F d w' := fun e => by subst e; exact ⟨F, h, fun k hk => .inl hk, Only.refl F _⟩
  apply calls84
  unfold S84 Dev.write
  refine splitW_f (by rfl) ?_
  refine callW_of (there_calls h k) ?_
  rintro _ w1 ⟨rfl, hw⟩
  refine ⟨_, rfl, ?_⟩
  subst hw
  obtain ⟨Ad, Ap, nd, cd, np, cp, t, hb, hd, hp, hF, h1, h2, h3⟩ := h.mem
  refine splitW_i (fun hz => ?_) (fun hz => ?_)
  · have hz : ¬ (0 ≤ k ∧ k < d.blocks) := of_decide_eq_false (show d.there k = false by simpa using hz)
    rw [if_pos (.inl hz)]
    exact ⟨rfl, stay rfl⟩
  have hth : 0 ≤ k ∧ k < d.blocks := of_decide_eq_true (show d.there k = true by simpa using hz)
  refine ptr_i (box0 d.size hb (by rfl) (splitW_i (fun hz => ?_) (fun hz => ?_)))
  · rw [if_pos (.inr (bne_iff_ne.1 hz))]
    exact ⟨rfl, stay rfl⟩
  have hsz := bne_eq_false_iff_eq.1 hz
  rw [if_neg (by rintro (x | x); exact x hth; exact x hsz)]
  refine callW_of (done_calls h) ?_
  rintro _ w2 (⟨hz, rfl, hw⟩ | ⟨hz, rfl, hD, hg⟩)
  · refine ⟨_, rfl, splitW_t (by rfl) ?_⟩
    rw [if_pos hz]
    exact ⟨rfl, stay hw⟩
  refine ⟨_, rfl, splitW_f (by rfl) ?_⟩
  rw [if_neg hz]
  obtain ⟨Ad, Ap, nd, cd, np, cp, t, hb, hd, hp, hF, h1, h2, h3⟩ := hD.mem
  have hlp := hp.len
  have hlp2 : d.burnt.pen = d.pen := rfl
  refine ptr_i (boxF 3 (Ap, np, cp) hb (by rfl) ?_)
  refine append_newi (E := writeE) (ys := [(k, s)]) (by rfl) rfl elem_write hp (Nat.zero_le _) (by dsimp only; rw [hlp2] at hlp; omega) (by omega) ?_
  intro A' c' w3 hp3 hg3
  have hb3 := hb.grown hg3.grown (fun e => h2 e.symm)
  have hd3 := hd.grown hg3.grown (fun j hj e => h3 j e hj)
  refine ptr_i ?_
  rw [add_mk]
  refine stW_blk hb3 (by show 0 + 3 < 6; omega) ?_
  have hg4 := set_grown w3 b (0 + 3) (.slice A' (np + 1) c')
  have hb4 := hb3.set (0 + 3) (.slice A' (np + 1) c')
  have hb5 := (hF b).2 (.inl rfl)
  have hnew : ∀ j, orow A' = some j → orow Ap = some j ∨ w2.heap.size ≤ j := hg3.2
  have hbl := hb.lt
  have n1 : orow A' ≠ some b := fun e => by rcases hnew b e with x | x; exact h2 x; omega
  have n2 : ∀ j, orow Ad = some j → orow A' ≠ some j := fun j hj e => by
    rcases hnew j e with x | x
    · exact h3 j hj x
    · have := hd.row_lt j hj; omega
  refine ⟨rfl, fun j => j = b ∨ orow Ad = some j ∨ orow A' = some j, ⟨⟨Ad, A', nd, cd, np + 1, c', t, hb4, hd3.grown hg4 (fun j hj e => by injection hj with hj; subst hj; exact h1 e), hp3.grown hg4 (fun j hj e => by injection hj with hj; subst hj; exact n1 e), fun _ => Iff.rfl, h1, n1, n2⟩, ?_⟩, ?_, ?_⟩
  · refine ⟨hD.ok.geo, hD.ok.len, hD.ok.each, fun p hp => ?_, hD.ok.fuse⟩
    rcases List.mem_append.1 hp with hp | hp
    · exact hD.ok.pend p hp
    · rw [List.mem_singleton.1 hp]; exact ⟨hth.1, hth.2, hsz⟩
  · rintro j (rfl | hj | hj)
    · exact .inl hb5
    · exact .inl ((hF j).2 (.inr (.inl hj)))
    · rcases hnew j hj with x | x
      · exact .inl ((hF j).2 (.inr (.inr x)))
      · exact .inr (Nat.le_trans hg.size x)
  · refine Only.trans (Only.trans (Only.of_grown hg (fun j hj => by injection hj with hj; subst hj; exact .inl hb5)) (Only.of_grown (F := F) hg3.grown (fun j hj => .inl ((hF j).2 (.inr (.inr hj))))) (fun j hj => .inl hj)) (Only.of_grown (F := F) hg4 (fun j hj => by injection hj with hj; subst hj; exact .inl hb5)) (fun j hj => .inl hj)
theorem strE_flat (l : List ByteArray) : strE.flat l = l.map Value.string := by
  induction l with
  | nil => rfl
  | cons a r ih => rw [List.map_cons, ← ih]; rfl
theorem idx_setS {w : World} {e : TypeId} {B : Nat} {A : Option Addr} {n c : Nat} {xs : List ByteArray} {i : Int} {s : ByteArray} {K : WP} (h : Owni strE e w B A n c xs) (h0 : 0 ≤ i) (h1 : i < (n : Int))
    (hK : ∀ w', Owni strE e w' B A n c (xs.set i.toNat s) → w.grownBy w' (orow A) → K w') :
    (guardW (0 ≤ i ∧ i < ((n : Nat) : Int)) <| ptrW A fun p => stW (p.add (Int.toNat i * 1)) (.string s) K) w := by
  refine idx_set (e := e) (B := B) (c := c) (vs := strE.flat xs) h h0 h1 fun w' ho hg => hK w' ?_ (by rw [orow_eq] at hg; exact hg)
  have e1 : (strE.flat xs).set i.toNat (.string s) = strE.flat (xs.set i.toNat s) := by rw [strE_flat, strE_flat, List.map_set]
  rw [e1] at ho
  exact ho
theorem puts_len (l : List (Int × ByteArray)) : ∀ dur : List ByteArray, (l.foldl Go.Proofs.YtjdmggaeagnolaaGreatDoor.V.put dur).length = dur.length := by
  induction l with
  | nil => intro dur; rfl
  | cons p r ih => intro dur; rw [List.foldl_cons, ih]; simp [Go.Proofs.YtjdmggaeagnolaaGreatDoor.V.put]
theorem puts_each {n : Int} (l : List (Int × ByteArray)) : ∀ dur : List ByteArray, (∀ s ∈ dur, (s.size : Int) = n) → (∀ p ∈ l, (p.2.size : Int) = n) → ∀ s ∈ l.foldl Go.Proofs.YtjdmggaeagnolaaGreatDoor.V.put dur, (s.size : Int) = n := by
  induction l with
  | nil => intro dur h _; exact h
  | cons p r ih =>
    intro dur h hl
    rw [List.foldl_cons]
    refine ih _ (fun s hs => ?_) (fun q hq => hl q (List.mem_cons_of_mem _ hq))
    rcases List.mem_or_eq_of_mem_set hs with hs | rfl
    · exact h s hs
    · exact hl p List.mem_cons_self
theorem flush_calls {w : World} {b : Nat} {d : Dev} {F : Nat → Prop} (h : DevAt w b d F) :
    Calls Tryz.prog 82 #[.pointer (some ⟨b, 0, none⟩)] w (Ret fun v w' => v = .int .i64 d.flush.2 ∧ Step w b F d.flush.1 w') := by
  have stay : ∀ {w' : World}, w' = w → Step w b F d w' := fun e => by subst e; exact ⟨F, h, fun k hk => .inl hk, Only.refl F _⟩
  apply calls82
  unfold S82 Dev.flush
  refine splitW_f (by rfl) ?_
  refine callW_of (done_calls h) ?_
  rintro _ w2 (⟨hz, rfl, hw⟩ | ⟨hz, rfl, hD, hg⟩)
  · refine ⟨_, rfl, splitW_t (by rfl) ?_⟩
    rw [if_pos hz]
    exact ⟨rfl, stay hw⟩
  refine ⟨_, rfl, splitW_f (by rfl) ?_⟩
  rw [if_neg hz]
  obtain ⟨Ad, Ap, nd, cd, np, cp, t, hb, hd, hp, hF, h1, h2, h3⟩ := hD.mem
  have hlp : d.pen.length = np := hp.len
  have hld : d.dur.length = nd := hd.len
  have hpl := hp.sl.le
  have hok := h.ok
  refine ptr_i (boxF 3 (Ap, np, cp) hb (by rfl) ?_)
  refine loopW_i (fun y w' => ∃ i : Nat, i ≤ np ∧ y = ((i : Int), ()) ∧ Only F w2 w' ∧ Blk w' b [.int .i64 d.size, .int .i64 d.blocks, .slice Ad nd cd, .slice Ap np cp, .int .i64 d.burnt.ops, .int .i64 d.burnt.fuse] t
      ∧ Owni strE 9 w' 0 Ad nd cd ((d.pen.take i).foldl Go.Proofs.YtjdmggaeagnolaaGreatDoor.V.put d.dur) ∧ Owni writeE 99 w' 0 Ap np cp d.pen) (fun y => (np - y.1).toNat) ⟨0, by omega, rfl, Only.refl F w2, hb, hd, hp⟩ ?_
  rintro _ w3 ⟨i, hi, rfl, hO, hb, hd, hp⟩
  dsimp only
  by_cases hlt : i < np
  · refine splitW_t (decide_eq_true (by omega)) ?_
    refine idx_A (ls := [.int .i64, .str]) (fun x : Int × ByteArray => (x.1, x.2, ())) (0, ByteArray.empty) hp.sl (fun _ => rfl) rfl (by omega) (by omega) ?_
    rw [Int.toNat_natCast]
    have e : d.pen[i]? = some (d.pen.getD i (0, ByteArray.empty)) := by rw [List.getD_eq_getElem?_getD, List.getElem?_eq_getElem (by omega)]; rfl
    have hq := hok.pend _ (List.mem_of_getElem? e)
    generalize d.pen.getD i (0, ByteArray.empty) = q at e hq ⊢
    have hlen := hok.len
    refine box_i (vs := writeE.f q) (by rfl) (writeE.one q) ?_ (by rfl)
    intro r8 w4 hb8 he4 hr8
    refine draw_i fun w5 he5 _ _ => ?_
    have he35 := he4.trans he5
    have hb8 := hb8.ext he5
    have hb5 := hb.ext he35
    have hd5 := hd.ext he35
    refine ptr_i (boxF 2 (Ad, nd, cd) hb5 (by rfl) (box0 q.1 hb8 (by rfl) (boxF 1 q.2 hb8 (by rfl) ?_)))
    dsimp only
    refine idx_setS hd5 hq.1 (by have := hq.2.1; omega) ?_
    intro w6 hd6 hg6
    have hb6 := hb5.grown hg6 (fun e => h1 e.symm)
    have hp6 := (hp.ext he35).grown hg6 (fun j hj e => h3 j hj e)
    have efold : (d.pen.take (i + 1)).foldl Go.Proofs.YtjdmggaeagnolaaGreatDoor.V.put d.dur = Go.Proofs.YtjdmggaeagnolaaGreatDoor.V.put ((d.pen.take i).foldl Go.Proofs.YtjdmggaeagnolaaGreatDoor.V.put d.dur) q := by
      rw [List.take_add_one, e, List.foldl_append]
      rfl
    refine ⟨⟨i + 1, by omega, by rw [wrap_i64 (by omega) (by omega)]; rfl, ?_, hb6, by rw [efold]; exact hd6, hp6⟩, by rw [wrap_i64 (by omega) (by omega)]; omega⟩
    exact Only.trans (Only.trans hO (Only.of_ext (F := F) he35) (fun j hj => .inl hj)) (Only.of_grown (F := F) hg6 (fun j hj => .inl ((hF j).2 (.inr (.inl hj))))) (fun j hj => .inl hj)
  · obtain rfl : i = np := by omega
    refine splitW_f (decide_eq_false (by omega)) (ptr_i ?_)
    rw [add_mk]
    refine stW_blk hb (by show 0 + 3 < 6; omega) ?_
    have hg7 := set_grown w3 b (0 + 3) (.slice none 0 0)
    have hb7 := hb.set (0 + 3) (.slice none 0 0)
    rw [List.take_of_length_le (by omega)] at hd
    have hbF := (hF b).2 (.inl rfl)
    refine ⟨rfl, fun j => j = b ∨ orow Ad = some j ∨ orow none = some j, ⟨⟨Ad, none, nd, cd, 0, 0, t, hb7, hd.grown hg7 (fun j hj e => by injection hj with hj; subst hj; exact h1 e), Owni.nil _ _ _, fun _ => Iff.rfl, h1, (fun e => by cases e), (fun j hj e => by cases e)⟩, ?_⟩, ?_, ?_⟩
    · exact ⟨hok.geo, by show (((d.pen.foldl Go.Proofs.YtjdmggaeagnolaaGreatDoor.V.put d.dur).length : Nat) : Int) = d.blocks; rw [puts_len]; exact hok.len, puts_each _ _ hok.each (fun p hp => (hok.pend p hp).2.2), (fun p hp => by cases hp), hD.ok.fuse⟩
    · rintro j (rfl | hj | hj)
      · exact .inl hbF
      · exact .inl ((hF j).2 (.inr (.inl hj)))
      · cases hj
    · exact Only.trans (Only.trans (Only.of_grown (F := F) hg (fun j hj => by injection hj with hj; subst hj; exact .inl hbF)) hO (fun j hj => .inl hj)) (Only.of_grown (F := F) hg7 (fun j hj => by injection hj with hj; subst hj; exact .inl hbF)) (fun j hj => .inl hj)
end Go.Proofs.YtjdmggaeagnolaaGreatDoor.V
/- Ranges over functions that may be left early; iterators with a state of their own; what loops over functions leave as it was. -/
namespace Go.Proofs.YtjdmggaeagnolaaGreatDoor.V
open Go
def IterT (P : Program) (v : Value) (L : List (List Value)) (R : Nat → WP) (T : Nat → World → World) : Prop :=
  ∃ f cap, v = .func (.func f) #[] cap ∧ enterable P f = true ∧ ∀ (l : Nat) (J : Nat → WP) (E : WP) (w : World), J 0 w → (∀ i w', J i w' → R i w') → (∀ i w', J i w' → J i w'.drew) →
    (∀ i w' (h : i < L.length), J i w' → YieldAt P l L[i] w' fun v w'' => (v = .bool true ∧ R i w'' ∧ J (i + 1) (T i w'')) ∨ (v = .bool false ∧ E w'')) →
    Calls P f (.func (.yield l) #[] #[] :: cap.toList).toArray w (Ret fun _ w' => J L.length w' ∨ E w')
theorem rangeT_i {P : Program} {v : Value} {T : Type} {vals : T → List Value} {Body : T → (WP → WP) → WP → (Code → WP) → WP} {done : Nat → Option Code → WP} {w : World} {L : List (List Value)} {R : Nat → WP} {Tr : Nat → World → World} (I : Nat → WP) (D : Code → WP) (tv : Nat → T) (htv : ∀ i (hi : i < L.length), vals (tv i) = L[i])
    (hit : IterT P v L R Tr) (hR : ∀ i w', I i w' → R i w') (hdr : ∀ i w', I i w' → I i w'.drew)
    (hst : ∀ i w' w'', SameBut w.heap.size (w.heap.size + 1) w' w'' → I i w' → I i w'')
    (hRst : ∀ i w' w'', SameBut w.heap.size (w.heap.size + 1) w' w'' → R i w' → R i w'')
    (hDst : ∀ c w' w'', SameBut w.heap.size (w.heap.size + 1) w' w'' → D c w' → D c w'')
    (hT : ∀ i w' w'', SameBut w.heap.size (w.heap.size + 1) w' w'' → SameBut w.heap.size (w.heap.size + 1) (Tr i w') (Tr i w''))
    (hTk : ∀ i w' (k : Nat), w.heap.size ≤ k → (Tr i w').heap[k]? = w'.heap[k]?)
    (h0 : ∀ o, I 0 ((w.alloc (.deferred (some []))).alloc o))
    (hbody : ∀ (i : Nat) (hi : i < L.length) (w' : World) (G : WP → WP) (N : WP) (jump : Code → WP), I i w' → w.heap.size + 2 ≤ w'.heap.size → 
      (∀ (K : WP) w1, I i w1 → w'.heap.size ≤ w1.heap.size → (∀ k, k = w.heap.size ∨ k = w.heap.size + 1 → w1.heap[k]? = w'.heap[k]?) → (∀ w2, I i w2 → w1.heap.size = w2.heap.size → (∀ k : Nat, k ≠ w.heap.size → k ≠ w.heap.size + 1 → w2.heap[k]? = w1.heap[k]?) →
        (∀ w'', R i w'' ∧ I (i + 1) (Tr i w'') → w2.heap.size ≤ w''.heap.size → (∀ k, k = w.heap.size ∨ k = w.heap.size + 1 → w''.heap[k]? = w2.heap[k]?) → N w'') →
        (∀ c w'', D c w'' → w2.heap.size ≤ w''.heap.size → (∀ k, k = w.heap.size ∨ k = w.heap.size + 1 → w''.heap[k]? = w2.heap[k]?) → jump c w'') → K w2) → G K w1) →
      Body (tv i) G N jump w')
    (hdone : ∀ w', I L.length w' → w.heap.size + 2 ≤ w'.heap.size → w'.heap[w.heap.size]? = some (.deferred (some [])) → done w.heap.size none w')
    (hjump : ∀ c w', D c w' → w.heap.size + 2 ≤ w'.heap.size → w'.heap[w.heap.size]? = some (.deferred (some [])) → done w.heap.size (some c) w') :
    rangeW P v T vals Body done w := by
  obtain ⟨f, cap, rfl, hen, hcalls⟩ := hit
  refine ⟨f, cap, rfl, hen, fun rec hrec hY => ?_⟩
  have hlt : ∀ {w' : World} {o : Obj}, w'.heap[w.heap.size + 1]? = some o → w.heap.size + 1 < w'.heap.size := fun h => (Array.getElem?_eq_some_iff.1 h).1
  refine Calls.mono (hcalls (w.heap.size + 1) (fun i w' => I i w' ∧ w'.heap[w.heap.size + 1]? = some (rec .ready none) ∧ w'.heap[w.heap.size]? = some (.deferred (some [])))
    (fun w' => ∃ c, D c w' ∧ w'.heap[w.heap.size + 1]? = some (rec .done (some c)) ∧ w'.heap[w.heap.size]? = some (.deferred (some []))) _ ⟨h0 _, ?_, ?_⟩ (fun i w' h => hR i w' h.1) (fun i w' h => ⟨hdr i w' h.1, h.2.1, h.2.2⟩) ?_) ?_
  · show ((w.heap.push _).push _)[w.heap.size + 1]? = _
    rw [Array.getElem?_push]
    simp
  · show ((w.heap.push _).push _)[w.heap.size]? = _
    rw [Array.getElem?_push, Array.getElem?_push]
    simp
  · rintro i w' hi ⟨hI, hl, hd⟩
    let Q : Bool → WP := fun b w'' => (b = true ∧ R i w'' ∧ I (i + 1) (Tr i w'') ∧ w''.heap[w.heap.size + 1]? = some (rec .ready none) ∧ w''.heap[w.heap.size]? = some (.deferred (some [])))
      ∨ (b = false ∧ ∃ c, D c w'' ∧ w''.heap[w.heap.size + 1]? = some (rec .done (some c)) ∧ w''.heap[w.heap.size]? = some (.deferred (some [])))
    have hb := hbody i hi w' (fun K w1 => w1.heap[w.heap.size + 1]? = some (rec .ready none) ∧ K (setO w1 (w.heap.size + 1) (rec .busy none)))
      (fun w2 => w2.heap[w.heap.size + 1]? = some (rec .busy none) ∧ Q true (setO w2 (w.heap.size + 1) (rec .ready none)))
      (fun c w2 => w2.heap[w.heap.size + 1]? = some (rec .busy none) ∧ Q false (setO w2 (w.heap.size + 1) (rec .done (some c)))) hI (by have := hlt hl; omega)
      (fun K w1 hI1 hs1 hk1 hG => by
        have hl1 := hk1 (w.heap.size + 1) (.inr rfl)
        rw [hl] at hl1
        have hd1 := hk1 w.heap.size (.inl rfl)
        rw [hd] at hd1
        refine ⟨hl1, hG _ (hst i w1 _ (sameBut_setO (o := rec .busy none) (.inr rfl)) hI1) (by rw [setO_size]) (fun k h1 h2 => setO_other (fun e => h2 e.symm)) ?_ ?_⟩
        · intro w'' hI3 hs hk
          have h1 := hk (w.heap.size + 1) (.inr rfl)
          rw [setO_same (hlt hl1)] at h1
          have h2 := hk w.heap.size (.inl rfl)
          rw [setO_other (by omega), hd1] at h2
          refine ⟨h1, .inl ⟨rfl, hRst _ _ _ (sameBut_setO (.inr rfl)) hI3.1, hst _ _ _ (hT i _ _ (sameBut_setO (.inr rfl))) hI3.2, setO_same (hlt h1), ?_⟩⟩
          rw [setO_other (by omega)]; exact h2
        · intro c w'' hD hs hk
          have h1 := hk (w.heap.size + 1) (.inr rfl)
          rw [setO_same (hlt hl1)] at h1
          have h2 := hk w.heap.size (.inl rfl)
          rw [setO_other (by omega), hd1] at h2
          refine ⟨h1, .inr ⟨rfl, c, hDst _ _ _ (sameBut_setO (.inr rfl)) hD, setO_same (hlt h1), ?_⟩⟩
          rw [setO_other (by omega)]; exact h2)
    have := hY (tv i) w' Q hl hb
    rw [htv i hi] at this
    obtain ⟨fn, tmps, asg, bd, h1, h2⟩ := this
    refine ⟨fn, tmps, asg, bd, h1, RoundIn.mono h2 ?_⟩
    rintro (v | c | _) w2 he
    · obtain ⟨b, rfl, ⟨rfl, hh1, hh2, hh3, hh4⟩ | ⟨rfl, hh⟩⟩ := he
      · exact .inl ⟨rfl, hh1, hh2, by rw [hTk i _ _ (by omega)]; exact hh3, by rw [hTk i _ _ (by omega)]; exact hh4⟩
      · exact .inr ⟨rfl, hh⟩
    · exact he
    · exact he
  · rintro (v | c | _) w3 he
    · rcases he with ⟨hI, hl, hd⟩ | ⟨c, hD, hl, hd⟩
      · refine ⟨.ready, none, by simp, hl, hdone _ (hst _ _ _ (sameBut_setO (.inr rfl)) hI) (by rw [setO_size]; have := hlt hl; omega) ?_⟩
        rw [setO_other (by omega)]
        exact hd
      · refine ⟨.done, some c, by simp, hl, hjump c _ (hDst _ _ _ (sameBut_setO (.inr rfl)) hD) (by rw [setO_size]; have := hlt hl; omega) ?_⟩
        rw [setO_other (by omega)]
        exact hd
    · exact he
    · exact he
def Iter2 (P : Program) (v : Value) (L : List (List Value)) (R : WP) : Prop := IterT P v L (fun _ => R) (fun _ w => w)
theorem SameBut.ext {a : Nat} {w0 w w' : World} (h : SameBut a (a + 1) w w') (he : Ext w0 w) (ha : w0.heap.size ≤ a) : Ext w0 w' := by
  obtain ⟨h1, h2, h3, h4, h5⟩ := h
  exact ⟨h1.trans he.os, h2.trans he.tape, h3.trans he.output, by have := he.size; omega, fun k hk => (h5 k (by omega) (by omega)).trans (he.block k hk)⟩
theorem SameBut.blk {a r : Nat} {w w' : World} {cs : List Value} {t : TypeId} (h : SameBut a (a + 1) w w') (hb : Blk w r cs t) (hr : r < a) : Blk w' r cs t :=
  (h.2.2.2.2 r (by omega) (by omega)).trans hb
theorem SameBut.size {a b : Nat} {w w' : World} (h : SameBut a b w w') : w'.heap.size = w.heap.size := h.2.2.2.1
theorem Blk.at_ {w w' : World} {r : Nat} {cs : List Value} {t : TypeId} (hb : Blk w r cs t) (h : w'.heap[r]? = w.heap[r]?) : Blk w' r cs t := h.trans hb
theorem rangeS_i {P : Program} {v : Value} {T : Type} {vals : T → List Value} {Body : T → WP → (Code → WP) → WP} {done : Nat → Option Code → WP} {w : World} {L : List (List Value)} {R : Nat → WP} {Tr : Nat → World → World} (I : Nat → WP) (D : Code → WP) (tv : Nat → T) (htv : ∀ i (hi : i < L.length), vals (tv i) = L[i])
    (hit : IterT P v L R Tr) (hR : ∀ i w', I i w' → R i w') (hdr : ∀ i w', I i w' → I i w'.drew)
    (hst : ∀ i w' w'', SameBut w.heap.size (w.heap.size + 1) w' w'' → I i w' → I i w'')
    (hRst : ∀ i w' w'', SameBut w.heap.size (w.heap.size + 1) w' w'' → R i w' → R i w'')
    (hDst : ∀ c w' w'', SameBut w.heap.size (w.heap.size + 1) w' w'' → D c w' → D c w'')
    (hT : ∀ i w' w'', SameBut w.heap.size (w.heap.size + 1) w' w'' → SameBut w.heap.size (w.heap.size + 1) (Tr i w') (Tr i w''))
    (hTk : ∀ i w' (k : Nat), w.heap.size ≤ k → (Tr i w').heap[k]? = w'.heap[k]?)
    (h0 : ∀ o, I 0 ((w.alloc (.deferred (some []))).alloc o))
    (hbody : ∀ (i : Nat) (hi : i < L.length) (w' : World) (N : WP) (jump : Code → WP), I i w' → w.heap.size + 2 ≤ w'.heap.size →
        (∀ w'', R i w'' ∧ I (i + 1) (Tr i w'') → w'.heap.size ≤ w''.heap.size → (∀ k, k = w.heap.size ∨ k = w.heap.size + 1 → w''.heap[k]? = w'.heap[k]?) → N w'') →
        (∀ c w'', D c w'' → w'.heap.size ≤ w''.heap.size → (∀ k, k = w.heap.size ∨ k = w.heap.size + 1 → w''.heap[k]? = w'.heap[k]?) → jump c w'') →
      Body (tv i) N jump w')
    (hdone : ∀ w', I L.length w' → w.heap.size + 2 ≤ w'.heap.size → w'.heap[w.heap.size]? = some (.deferred (some [])) → done w.heap.size none w')
    (hjump : ∀ c w', D c w' → w.heap.size + 2 ≤ w'.heap.size → w'.heap[w.heap.size]? = some (.deferred (some [])) → done w.heap.size (some c) w') :
    rangeW P v T vals (fun t begin next jump => begin (Body t next jump)) done w := by
  refine rangeT_i I D tv htv hit hR hdr hst hRst hDst hT hTk h0 ?_ hdone hjump
  intro i hi w' G N jump hI hs hG
  exact hG _ w' hI (Nat.le_refl _) (fun _ _ => rfl) fun w2 hI2 hsz hk hN hJ => hbody i hi w2 N jump hI2 (by omega) hN hJ
end Go.Proofs.YtjdmggaeagnolaaGreatDoor.V
/- Contracts of the package device: Read, Image, Pending, Geo. -/
namespace Go.Proofs.YtjdmggaeagnolaaGreatDoor.V
open Go Go.Proofs Go.RowKit Crc
theorem DevAt.ext {w w' : World} {b : Nat} {d : Dev} {F : Nat → Prop} (h : DevAt w b d F) (k : Ext w w') : DevAt w' b d F :=
  h.apart (G := fun _ => False) (Only.of_ext k) (fun _ _ h => h)
abbrev w00 : Int × ByteArray := (0, ByteArray.empty)
def RLat (r1 : Nat) (A : Option Addr) (n c : Nat) (ps : List (Int × ByteArray)) : WP := fun w => Blk w r1 [.slice A n c] 52 ∧ Sli writeE w A n ps
def latV (ps : List (Int × ByteArray)) : List (List Value) := (List.range ps.length).map fun i => [.int .i64 ((ps.length - 1 - i : Nat) : Int), .agg #[.int .i64 (ps.getD (ps.length - 1 - i) w00).1, .string (ps.getD (ps.length - 1 - i) w00).2]]
theorem latV_length (ps : List (Int × ByteArray)) : (latV ps).length = ps.length := by simp [latV]
theorem backwr_calls {w : World} {A : Option Addr} {n c : Nat} {ps : List (Int × ByteArray)} (h : Sli writeE w A n ps) :
    Calls Tryz.prog 77 #[.slice A n c] w (Ret fun v w' => Iter2 Tryz.prog v (latV ps) (RLat w.heap.size A n c ps) ∧ RLat w.heap.size A n c ps w' ∧ w'.heap.size = w.heap.size + 1 ∧ Ext w w') := by
  apply calls77
  unfold S77
  apply newW_i
  have he := (Ext.refl w).alloc (.cells #[.slice A n c] 52)
  refine ⟨⟨_, _, rfl, by kernel_rfl, fun l J E w' hJ hR hd hY => ?_⟩, ⟨Blk.new w #[.slice A n c] 52, h.ext he⟩, by simp, he⟩
  apply calls106
  unfold S106
  rw [latV_length]
  obtain ⟨h1, h2⟩ := hR 0 w' hJ
  have hl := h2.len
  have hle := h2.le
  refine ldW_blk (x := (A, n, c)) h1 (by rfl) ?_
  dsimp only
  rw [wrap_i64 (by omega) (by omega)]
  refine loopW_i (fun y w' => ∃ i : Nat, i ≤ n ∧ y = ((n : Int) - 1 - i, ()) ∧ J i w') (fun y => (y.1 + 1).toNat) ⟨0, by omega, by simp, hJ⟩ ?_
  rintro _ w1 ⟨i, hi, rfl, hJ⟩
  dsimp only
  by_cases hlt : i < n
  · refine splitW_t (decide_eq_true (by omega)) ?_
    obtain ⟨h1, h2⟩ := hR i w1 hJ
    refine ldW_blk (x := (A, n, c)) h1 (by rfl) ?_
    dsimp only
    refine idx_A (ls := [.int .i64, .str]) (fun x : Int × ByteArray => (x.1, x.2, ())) w00 h2 (fun _ => rfl) rfl (by omega) (by omega) ?_
    have hlt' : i < (latV ps).length := by rw [latV_length]; omega
    refine .inr ⟨l, rfl, ?_⟩
    have hy := hY i w1 hlt' hJ
    have el : (latV ps)[i] = [.int .i64 ((n : Int) - 1 - i), .agg #[.int .i64 (ps.getD (Int.toNat ((n : Int) - 1 - i)) w00).1, .string (ps.getD (Int.toNat ((n : Int) - 1 - i)) w00).2]] := by
      have e1 : ((ps.length - 1 - i : Nat) : Int) = (n : Int) - 1 - i := by omega
      have e2 : Int.toNat ((n : Int) - 1 - i) = ps.length - 1 - i := by omega
      rw [e2, ← e1]
      simp [latV]
    rw [el] at hy
    obtain ⟨fn, tmps, asg, bd, hy1, hy2⟩ := hy
    refine ⟨fn, tmps, asg, bd, hy1, RoundIn.mono hy2 ?_⟩
    rintro (v | x | _) w2 hv
    · rcases hv with ⟨rfl, _, hJ2⟩ | ⟨rfl, hE⟩
      · refine ⟨true, rfl, splitW_f (by rfl) ?_⟩
        rw [wrap_i64 (by omega) (by omega)]
        exact ⟨⟨i + 1, by omega, by congr 1; omega, hJ2⟩, by omega⟩
      · exact ⟨false, rfl, splitW_t (by rfl) (.inr hE)⟩
    · exact hv
    · exact hv
  · refine splitW_f (decide_eq_false (by omega)) ?_
    obtain rfl : i = n := by omega
    rw [hl]
    exact .inl hJ
theorem latest_calls {w : World} {b : Nat} {d : Dev} {F : Nat → Prop} (h : DevAt w b d F) :
    Calls Tryz.prog 40 #[.pointer (some ⟨b, 0, none⟩)] w (Ret fun v w' => ∃ A n c, Iter2 Tryz.prog v (latV d.pen) (RLat w.heap.size A n c d.pen) ∧ RLat w.heap.size A n c d.pen w' ∧ w'.heap.size = w.heap.size + 1 ∧ Ext w w') := by
  obtain ⟨Ad, Ap, nd, cd, np, cp, t, hb, hd, hp, hF, h1, h2, h3⟩ := h.mem
  apply calls40
  unfold S40
  refine ptr_i (boxF 3 (Ap, np, cp) hb (by rfl) ?_)
  refine callW_of (backwr_calls hp.sl) ?_
  rintro v w1 hw
  exact ⟨v, rfl, Ap, np, cp, hw⟩
theorem getD_set (l : List ByteArray) (i k : Nat) (x e : ByteArray) : (l.set i x).getD k e = if i = k ∧ k < l.length then x else l.getD k e := by
  rw [List.getD_eq_getElem?_getD, List.getD_eq_getElem?_getD, List.getElem?_set]
  by_cases hik : i = k
  · subst hik
    by_cases hk : i < l.length
    · simp [hk]
    · simp [hk]
  · rw [if_neg hik, if_neg (fun h => hik h.1)]
theorem puts_skip {k : Int} (hk : 0 ≤ k) {e : ByteArray} : ∀ (l : List (Int × ByteArray)) (dur : List ByteArray), (∀ p ∈ l, 0 ≤ p.1) → (∀ p ∈ l, p.1 ≠ k) → (l.foldl Go.Proofs.YtjdmggaeagnolaaGreatDoor.V.put dur).getD k.toNat e = dur.getD k.toNat e
  | [], _, _, _ => rfl
  | p :: r, dur, h0, h => by
    rw [List.foldl_cons, puts_skip hk r _ (fun q hq => h0 q (List.mem_cons_of_mem _ hq)) (fun q hq => h q (List.mem_cons_of_mem _ hq))]
    have h1 := h0 p List.mem_cons_self
    have h2 := h p List.mem_cons_self
    unfold Go.Proofs.YtjdmggaeagnolaaGreatDoor.V.put
    rw [getD_set, if_neg (by omega)]
theorem puts_last {k : Int} (hk : 0 ≤ k) {e : ByteArray} {l : List (Int × ByteArray)} {dur : List ByteArray} {j : Nat} (h0 : ∀ p ∈ l, 0 ≤ p.1) (hj : j < l.length) (hkl : k.toNat < dur.length) (he : (l.getD j w00).1 = k) (hno : ∀ i, j < i → i < l.length → (l.getD i w00).1 ≠ k) :
    (l.foldl Go.Proofs.YtjdmggaeagnolaaGreatDoor.V.put dur).getD k.toNat e = (l.getD j w00).2 := by
  have e1 : l = l.take j ++ l.getD j w00 :: l.drop (j + 1) := by
    rw [List.getD_eq_getElem?_getD, List.getElem?_eq_getElem hj, Option.getD_some, ← List.drop_eq_getElem_cons hj, List.take_append_drop]
  generalize hq : l.getD j w00 = q at e1 he ⊢
  have hd : ∀ p ∈ l.drop (j + 1), p.1 ≠ k := by
    intro p hp
    obtain ⟨i, hi, rfl⟩ := List.mem_iff_getElem.1 hp
    rw [List.length_drop] at hi
    have := hno (j + 1 + i) (by omega) (by omega)
    rw [List.getD_eq_getElem?_getD, List.getElem?_eq_getElem (by omega), Option.getD_some] at this
    simpa using this
  rw [e1, List.foldl_append, List.foldl_cons, puts_skip hk _ _ (fun p hp => h0 p (List.mem_of_mem_drop hp)) hd]
  unfold Go.Proofs.YtjdmggaeagnolaaGreatDoor.V.put
  have hl := puts_len (l.take j) dur
  unfold Go.Proofs.YtjdmggaeagnolaaGreatDoor.V.put at hl
  rw [getD_set, he, if_pos ⟨rfl, by rw [hl]; exact hkl⟩]
theorem read_calls {w : World} {b : Nat} {d : Dev} {F : Nat → Prop} (h : DevAt w b d F) (k : Int) :
    Calls Tryz.prog 12 #[.pointer (some ⟨b, 0, none⟩), .int .i64 k] w (Ret fun v w' => v = .tuple #[.string (d.read k).1, .int .i64 (d.read k).2] ∧ Ext w w') := by
  apply calls12
  unfold S12 Dev.read
  refine new_i fun r1 w1 hb1 he1 hr1 hz1 => ?_
  refine new_i fun r2 w2 hb2 he2 hr2 hz2 => ?_
  refine new_i fun r3 w3 hb3 he3 hr3 hz3 => ?_
  have hb1 := (hb1.ext he2).ext he3
  have hb2 := hb2.ext he3
  have he := (he1.trans he2).trans he3
  refine splitW_f (by rfl) ?_
  refine ldW_blk (x := k) hb1 (by rfl) ?_
  have hD := h.ext he
  refine callW_of (there_calls hD k) ?_
  rintro _ w4 ⟨rfl, hw⟩
  refine ⟨_, rfl, ?_⟩
  obtain rfl : w3 = w4 := hw.symm
  refine splitW_i (fun hz => ?_) (fun hz => ?_)
  · have hz : ¬ (0 ≤ k ∧ k < d.blocks) := of_decide_eq_false (show d.there k = false by simpa using hz)
    rw [if_pos hz]
    refine stW_blk hb2 (by show 0 < 1; omega) ?_
    have hb3' := hb3.other (p := ⟨r2, 0, none⟩) (by show r2 ≠ r3; omega) (.string (ByteArray.mk #[]))
    refine stW_blk hb3' (by show 0 < 1; omega) ?_
    have hb2' := (hb2.set 0 (.string (ByteArray.mk #[]))).other (p := ⟨r3, 0, none⟩) (by show r3 ≠ r2; omega) (.int .i64 2)
    have hb3'' := hb3'.set 0 (.int .i64 2)
    refine ldW_blk (x := ByteArray.mk #[]) hb2' (by rfl) (ldW_blk (x := (2 : Int)) hb3'' (by rfl) ?_)
    exact ⟨rfl, (he.set (by show w.heap.size ≤ r2; omega) _).set (by show w.heap.size ≤ r3; omega) _⟩
  have hth : 0 ≤ k ∧ k < d.blocks := of_decide_eq_true (show d.there k = true by simpa using hz)
  rw [if_neg (fun x => x hth)]
  have hok := h.ok
  have hlen := hok.len
  have h0 : ∀ p ∈ d.pen, 0 ≤ p.1 := fun p hp => (hok.pend p hp).1
  refine callW_of (latest_calls hD) ?_
  rintro v w4 ⟨A, n, c, hit, hRL, hs4, he4⟩
  refine ⟨v, rfl, ?_⟩
  have hr4 := hRL.1.lt
  let G : World → Prop := fun w' => Ext w w' ∧ Blk w' r1 [.int .i64 k] 3 ∧ RLat w3.heap.size A n c d.pen w' ∧ w4.heap.size ≤ w'.heap.size
  have hG4 : G w4 := ⟨he.trans he4, hb1.ext he4, hRL, Nat.le_refl _⟩
  have hGext : ∀ {w' w'' : World}, G w' → Ext w' w'' → G w'' := fun hg hx => ⟨hg.1.trans hx, hg.2.1.ext hx, ⟨hg.2.2.1.1.ext hx, hg.2.2.1.2.ext hx⟩, Nat.le_trans hg.2.2.2 hx.size⟩
  have hsame : ∀ {w' w'' : World}, SameBut w4.heap.size (w4.heap.size + 1) w' w'' → G w' → G w'' := fun hs hg => by
    have hx := hs.ext hg.1 (by have := he4.size; omega)
    obtain ⟨g1, g2, g3, g4⟩ := hg
    refine ⟨hx, hs.blk g2 (by omega), ⟨hs.blk g3.1 (by omega), ?_⟩, by rw [hs.size]; exact g4⟩
    obtain ⟨s1, s2, s3⟩ := g3.2
    obtain ⟨t1, t2, t3⟩ := hRL.2
    refine ⟨s1, s2, fun hn => ?_⟩
    obtain ⟨a, e1, e2, e3⟩ := t3 hn
    refine ⟨a, e1, e2, fun j v hj => ?_⟩
    have hc := e3 j v hj
    have hab : (a.add j).block = a.block := by unfold Addr.add; split <;> rfl
    have hlt := World.block_lt_of_cell? w4 _ hc
    obtain ⟨a', e1', e2', e3'⟩ := s3 hn
    obtain rfl : a' = a := by rw [e1] at e1'; exact (Option.some.inj e1').symm
    have hc' := e3' j v hj
    unfold World.cell? at hc' ⊢
    rw [hs.2.2.2.2 _ (by omega) (by omega)]
    exact hc'
  have hp0 : ∀ j, j < d.pen.length → d.pen[j]? = some (d.pen.getD j w00) := fun j hj => by rw [List.getD_eq_getElem?_getD, List.getElem?_eq_getElem hj]; rfl
  refine rangeT_i (fun i w' => G w' ∧ Blk w' r2 [.string ByteArray.empty] 9 ∧ Blk w' r3 [.int .i64 0] 32 ∧ ∀ j, d.pen.length - i ≤ j → j < d.pen.length → (d.pen.getD j w00).1 ≠ k)
    (fun c w' => c = .ret ∧ Ext w w' ∧ ∃ s, Blk w' r2 [.string s] 9 ∧ Blk w' r3 [.int .i64 0] 32 ∧ s = (d.pen.foldl Go.Proofs.YtjdmggaeagnolaaGreatDoor.V.put d.dur).getD k.toNat ByteArray.empty)
    (fun i => (((d.pen.length - 1 - i : Nat) : Int), ((d.pen.getD (d.pen.length - 1 - i) w00).1, (d.pen.getD (d.pen.length - 1 - i) w00).2, ()), ())) ?_ hit ?_ ?_ ?_ ?_ ?_ ?_ ?_ ?_ ?_ ?_ ?_
  · intro i hi
    simp [latV]
  · intro i w' hI
    exact hI.1.2.2.1
  · intro i w' hI
    exact ⟨hGext hI.1 ((Ext.refl _).drew), hI.2.1, hI.2.2.1, hI.2.2.2⟩
  · intro i w' w'' hs hI
    exact ⟨hsame hs hI.1, hs.blk hI.2.1 (by omega), hs.blk hI.2.2.1 (by omega), hI.2.2.2⟩
  · intro i w' w'' hs hR
    refine ⟨hs.blk hR.1 (by omega), ?_⟩
    obtain ⟨s1, s2, s3⟩ := hR.2
    obtain ⟨t1, t2, t3⟩ := hRL.2
    refine ⟨s1, s2, fun hn => ?_⟩
    obtain ⟨a, e1, e2, e3⟩ := t3 hn
    refine ⟨a, e1, e2, fun j v hj => ?_⟩
    have hc := e3 j v hj
    have hlt := World.block_lt_of_cell? w4 _ hc
    obtain ⟨a', e1', e2', e3'⟩ := s3 hn
    obtain rfl : a' = a := by rw [e1] at e1'; exact (Option.some.inj e1').symm
    have hc' := e3' j v hj
    unfold World.cell? at hc' ⊢
    rw [hs.2.2.2.2 _ (by omega) (by omega)]
    exact hc'
  · rintro c w' w'' hs ⟨rfl, hx, s, g1, g2, g3⟩
    exact ⟨rfl, hs.ext hx (by have := he4.size; have := he.size; omega), s, hs.blk g1 (by omega), hs.blk g2 (by omega), g3⟩
  · intro i w' w'' hs
    exact hs
  · intro i w' k hk
    rfl
  · intro o
    have hx : Ext w4 ((w4.alloc (.deferred (some []))).alloc o) := ((Ext.refl w4).alloc _).alloc _
    exact ⟨hGext hG4 hx, (hb2.ext he4).ext hx, (hb3.ext he4).ext hx, fun j hj hj2 => by omega⟩
  · intro i hi w' G' N jump hI hsz hG'
    rw [latV_length] at hi
    obtain ⟨hI1, hI2, hI3, hI4⟩ := hI
    dsimp only
    refine box_i (vs := writeE.f (d.pen.getD (d.pen.length - 1 - i) w00)) (by rfl) (writeE.one _) ?_ (by rfl)
    intro r17 w5 hb17 he5 hr17
    have hk5 : ∀ k : Nat, k = w4.heap.size ∨ k = w4.heap.size + 1 → w5.heap[k]? = w'.heap[k]? := fun k hk => he5.block k (by omega)
    refine hG' _ w5 ⟨hGext hI1 he5, hI2.ext he5, hI3.ext he5, hI4⟩ he5.size hk5 ?_
    intro w6 hI6 hsz6 hk6 hN hJ
    obtain ⟨hI1, hI2, hI3, hI4⟩ := hI6
    have hb17 := hb17.at_ (hk6 r17 (by omega) (by omega))
    have hb17lt := hb17.lt
    refine ldW_blk (x := (d.pen.getD (d.pen.length - 1 - i) w00).1) hb17 (by rfl) ?_
    refine ldW_blk (x := k) hI1.2.1 (by rfl) ?_
    refine splitW_i (fun hz => ?_) (fun hz => ?_)
    · have hz := beq_iff_eq.1 hz
      refine boxF 1 (d.pen.getD (d.pen.length - 1 - i) w00).2 hb17 (by rfl) ?_
      refine stW_blk hI2 (by show 0 < 1; omega) ?_
      have hb3' := hI3.other (p := ⟨r2, 0, none⟩) (by show r2 ≠ r3; omega) (.string (d.pen.getD (d.pen.length - 1 - i) w00).2)
      refine stW_blk hb3' (by show 0 < 1; omega) ?_
      have hb2' := (hI2.set 0 (.string (d.pen.getD (d.pen.length - 1 - i) w00).2)).other (p := ⟨r3, 0, none⟩) (by show r3 ≠ r2; omega) (.int .i64 0)
      have hb3'' := hb3'.set 0 (.int .i64 0)
      refine hJ .ret _ ⟨rfl, (hI1.1.set (by show w.heap.size ≤ r2; omega) _).set (by show w.heap.size ≤ r3; omega) _, _, hb2', hb3'', ?_⟩ (by simp) (fun k hk => ?_)
      · refine (puts_last hth.1 h0 (by omega) (by omega) hz (fun j hj hj2 => hI4 j (by omega) hj2)).symm
      · rw [Below.heap_setCell _ _ _ _ (by show k ≠ r3; omega), Below.heap_setCell _ _ _ _ (by show k ≠ r2; omega)]
    · have hz := beq_eq_false_iff_ne.1 hz
      refine hN w6 ⟨hI1.2.2.1, hI1, hI2, hI3, fun j hj hj2 => ?_⟩ (Nat.le_refl _) (fun _ _ => rfl)
      by_cases hjj : j = d.pen.length - 1 - i
      · rw [hjj]; exact hz
      · exact hI4 j (by omega) hj2
  · rintro w' ⟨hI1, hI2, hI3, hI4⟩ hsz hdf
    rw [latV_length] at hI4
    rw [jumpK]
    refine draw_i fun w5 he5 hs5 hk5 => ?_
    have hx : Ext w w5 := hI1.1.trans he5
    obtain ⟨Ad, Ap, nd, cd, np, cp, t, hb, hd, hp, hF, g1, g2, g3⟩ := (h.ext hx).mem
    have hdl := hd.len
    refine ptr_i (boxF 2 (Ad, nd, cd) hb (by rfl) (ldW_blk (x := k) (hI1.2.1.ext he5) (by rfl) ?_))
    dsimp only
    refine idx_str hd.sl hth.1 (by omega) ?_
    have hI2 := hI2.ext he5
    have hI3 := hI3.ext he5
    refine stW_blk hI2 (by show 0 < 1; omega) ?_
    have hb3' := hI3.other (p := ⟨r2, 0, none⟩) (by show r2 ≠ r3; omega) (.string (d.dur.getD k.toNat ByteArray.empty))
    refine stW_blk hb3' (by show 0 < 1; omega) ?_
    have hb2' := (hI2.set 0 (.string (d.dur.getD k.toNat ByteArray.empty))).other (p := ⟨r3, 0, none⟩) (by show r3 ≠ r2; omega) (.int .i64 0)
    have hb3'' := hb3'.set 0 (.int .i64 0)
    have hx2 := (hx.set (p := ⟨r2, 0, none⟩) (by show w.heap.size ≤ r2; omega) (.string (d.dur.getD k.toNat ByteArray.empty))).set (p := ⟨r3, 0, none⟩) (by show w.heap.size ≤ r3; omega) (.int .i64 0)
    refine leave_i ?_ ?_
    · rw [Below.heap_setCell _ _ _ _ (by show w4.heap.size ≠ r3; omega), Below.heap_setCell _ _ _ _ (by show w4.heap.size ≠ r2; omega), hk5]
      exact hdf
    have hsb := sameBut_setO (a := w4.heap.size) (b := w4.heap.size + 1) (w := (w5.setCell ⟨r2, 0, none⟩ (.string (d.dur.getD k.toNat ByteArray.empty))).setCell ⟨r3, 0, none⟩ (.int .i64 0)) (o := .deferred none) (.inl rfl)
    refine ldW_blk (x := d.dur.getD k.toNat ByteArray.empty) (hsb.blk hb2' (by omega)) (by rfl) (ldW_blk (x := (0 : Int)) (hsb.blk hb3'' (by omega)) (by rfl) ?_)
    refine ⟨?_, hsb.ext hx2 (by have := he4.size; have := he.size; omega)⟩
    rw [puts_skip hth.1 _ _ h0 (fun p hp => ?_)]
    obtain ⟨j, hj, rfl⟩ := List.mem_iff_getElem.1 hp
    have := hI4 j (by omega) hj
    rw [List.getD_eq_getElem?_getD, List.getElem?_eq_getElem hj] at this
    exact this
  · rintro c' w' ⟨rfl, hx, s, hb2', hb3', rfl⟩ hsz hdf
    rw [jumpK]
    refine leave_i hdf ?_
    have hsb := sameBut_setO (a := w4.heap.size) (b := w4.heap.size + 1) (w := w') (o := .deferred none) (.inl rfl)
    refine ldW_blk (x := (d.pen.foldl Go.Proofs.YtjdmggaeagnolaaGreatDoor.V.put d.dur).getD k.toNat ByteArray.empty) (hsb.blk hb2' (by omega)) (by rfl) (ldW_blk (x := (0 : Int)) (hsb.blk hb3' (by omega)) (by rfl) ?_)
    exact ⟨rfl, hsb.ext hx (by have := he4.size; have := he.size; omega)⟩
end Go.Proofs.YtjdmggaeagnolaaGreatDoor.V
/- Rules and words that several seats share. -/
namespace Go.Proofs.YtjdmggaeagnolaaGreatDoor.V
open Go Go.Proofs Go.RowKit
section
variable {α : Type} {P : Program} {t e : TypeId} {z : Value} {bytes : Nat} {E : Enc α}
theorem clone_i {w : World} {A : Option Addr} {n c : Nat} {xs : List α} {K : Value → WP} (hE : ElemK P t e z E.k bytes) (h : Sli E w A n xs) (hlen : n * bytes ≤ 140737488355328) (hb : 0 < bytes)
    (hK : ∀ A' c' w', Owni E e w' w.heap.size A' n c' xs → Ext w w' → K (.slice A' n c') w') :
    (splitW (Option.isNone A) (K (.slice none 0 0)) <|
      newW (.cells #[] e) fun (r1 : Nat) => runW P (Builtin.append_ #[t, t] t #[.slice (some (⟨r1, 0, none⟩ : Addr)) 0 0, .slice A n c]) .slc fun (u2 : (Option Addr × Nat × Nat)) => K (.slice u2.1 u2.2.1 u2.2.2)) w := by
  refine splitW_i (fun hA => ?_) (fun hA => ?_)
  · have hA : A = none := by simpa using hA
    subst hA
    obtain rfl : n = 0 := by
      rcases Nat.eq_zero_or_pos n with h0 | h0
      · exact h0
      · obtain ⟨a, h1, _⟩ := h.2.2 h0; cases h1
    obtain rfl : xs = [] := List.eq_nil_of_length_eq_zero h.1
    exact hK none 0 w (Owni.nil _ _ _) (Ext.refl w)
  · apply newW_i
    have he : Ext w (w.alloc (.cells #[] e)) := (Ext.refl w).alloc _
    have ho : Owni E e (w.alloc (.cells #[] e)) w.heap.size (some ⟨w.heap.size, 0, none⟩) 0 0 ([] : List α) := Owni.lit (xs := []) (n := 0) rfl (Nat.le_refl _) (by omega)
    refine append_sli hE ho (by simp) (h.ext he) (by rw [Nat.zero_add]; exact hlen) hb ?_
    intro A' c' w' ho' hg _
    rw [Nat.zero_add] at ho' ⊢
    exact hK A' c' w' (by simpa using ho') (Ext.grown he hg.1 (fun j hj => by injection hj with hj; subst hj; exact Nat.le_refl _))
theorem copy_sl {w : World} {b o n c m d : Nat} {ty u t2 : TypeId} {X : Option Addr} {cs ys : List Value} {K : Int → WP} (hE : Elem P t e z bytes) (hb : Blk w b cs t2) (hx : Sl w X m ys) (hys : ∀ y ∈ ys, y.oneCell' = true) (ho : o + min m n ≤ cs.length) (hX : X ≠ none)
    (hK : ∀ w', Blk w' b (cs.take o ++ ys.take (min m n) ++ cs.drop (o + min m n)) t2 → w.grownBy w' (some b) → K ((min m n : Nat) : Int) w') :
    runW P (Builtin.copy_ #[t, u] ty #[.slice (some ⟨b, o, none⟩) n c, .slice X m d]) (.int .i64) K w := by
  obtain ⟨ht, hi, hz⟩ := hE
  obtain ⟨i, hi, hii⟩ := Option.map_eq_some_iff.1 hi
  simp only [Prod.mk.injEq] at hii
  obtain ⟨hz0, hz1, hz2⟩ := hii
  have hl := hx.len
  obtain ⟨a, rfl⟩ := Option.ne_none_iff_exists'.1 hX
  have hlen : (ys.take (min m n)).length = min m n := by rw [List.length_take]; omega
  have hsrc : ∀ j v, (ys.take (min m n))[j]? = some v → w.cell? (a.add j) = some v := fun j v hj => by
    rw [List.getElem?_take] at hj
    split at hj
    · rcases Nat.eq_zero_or_pos m with h0 | h0
      · omega
      · obtain ⟨a', h1, h2⟩ := hx.2.2 h0
        cases h1
        exact h2 j v hj
    · cases hj
  have hr := run_copy_row (P := P) w t u ty e b o n c a m d cs.toArray t2 (ys.take (min m n)) ht (by rw [hi]; simp [hz1]) hb hlen hsrc (by rw [hlen]; simpa using ho) (fun v hv => hys v (List.mem_of_mem_take hv))
  rw [hlen] at hr
  refine ⟨((min m n : Nat) : Int), _, hr, hK _ ?_ ?_⟩
  · have hb' : w.heap[b]? = some (.cells cs.toArray t2 (0, 0)) := hb
    show (w.heap.modify b _)[b]? = _
    rw [Array.getElem?_modify, if_pos rfl, hb']
    simp
  · refine ⟨rfl, rfl, rfl, by simp [World.setRow], fun k hk hne => ?_⟩
    simp [World.setRow]
    rw [Array.getElem?_modify]
    split
    · exact absurd (by subst_vars; rfl) hne
    · rfl
end
theorem owni_of_blk {α : Type} {E : Enc α} {e : TypeId} {w : World} {B b n : Nat} {xs : List α} (h : Blk w b (E.flat xs) e) (hn : xs.length = n) (hm : n ≤ 9223372036854775807) (hB : B ≤ b) : Owni E e w B (some ⟨b, 0, none⟩) n n xs := by
  refine ⟨by rw [E.flat_length, hn], .inr ⟨b, n, (E.flat xs).toArray, rfl, hB, h, Nat.le_refl _, by simpa [maxLen] using hm, by simp [E.flat_length, hn], ?_⟩⟩
  rw [List.take_of_length_le (by simp [E.flat_length, hn])]
def mkB (bs : List UInt8) : ByteArray := ⟨bs.toArray⟩
theorem B_mkB (bs : List UInt8) : B (mkB bs) = bs := B_mk bs
theorem mkB_size (bs : List UInt8) : (mkB bs).size = bs.length := by rw [B_size, B_mkB]
theorem heldAgg {w : World} {b : Nat} {x y : Value} {t : TypeId} (h : Blk w b [x, y] t) : ∀ p ∈ [((⟨b, 0, none⟩ : Addr).add 0, x), ((⟨b, 0, none⟩ : Addr).add 1, y)], w.cell? p.1 = some p.2 := by
  intro p hp
  simp only [List.mem_cons, List.not_mem_nil, or_false] at hp
  rcases hp with rfl | rfl <;> simp [add_mk, h.cell]
theorem held1F {w : World} {b o : Nat} {cs : List Value} {v : Value} {t : TypeId} (h : Blk w b cs t) (hv : cs[o]? = some v) : ∀ p ∈ [((⟨b, 0, none⟩ : Addr).add o, v)], w.cell? p.1 = some p.2 := by
  intro p hp
  obtain rfl := List.mem_singleton.1 hp
  show w.cell? ((⟨b, 0, none⟩ : Addr).add o) = _
  rw [add_mk, h.cell, Nat.zero_add, hv]
theorem held1Z {w : World} {b : Nat} {cs : List Value} {v : Value} {t : TypeId} (h : Blk w b cs t) (hv : cs[0]? = some v) : ∀ p ∈ [((⟨b, 0, none⟩ : Addr), v)], w.cell? p.1 = some p.2 := by
  intro p hp
  obtain rfl := List.mem_singleton.1 hp
  show w.cell? (⟨b, 0, none⟩ : Addr) = _
  rw [h.cell, hv]
abbrev HL (w : World) (l : List (Addr × Value)) : Prop := ∀ p ∈ l, w.cell? p.1 = some p.2
theorem h1_i {w : World} {a : List (Addr × Value)} {K : WP} (ha : HL w a) (hK : K w) : heldW [a] K w :=
  ⟨fun l hl => by rw [List.mem_singleton.1 hl]; exact ha, hK⟩
theorem h2_i {w : World} {a b : List (Addr × Value)} {K : WP} (ha : HL w a) (hb : HL w b) (hK : K w) : heldW [a, b] K w :=
  ⟨fun l hl => by
    simp only [List.mem_cons, List.not_mem_nil, or_false] at hl
    rcases hl with rfl | rfl
    · exact ha
    · exact hb, hK⟩
theorem h3_i {w : World} {a b c : List (Addr × Value)} {K : WP} (ha : HL w a) (hb : HL w b) (hc : HL w c) (hK : K w) : heldW [a, b, c] K w :=
  ⟨fun l hl => by
    simp only [List.mem_cons, List.not_mem_nil, or_false] at hl
    rcases hl with rfl | rfl | rfl
    · exact ha
    · exact hb
    · exact hc, hK⟩
theorem take_snoc {α : Type} {l : List α} {i : Nat} {p : α} (h : l[i]? = some p) : l.take (i + 1) = l.take i ++ [p] := by
  rw [List.take_add_one, h]
  rfl
end Go.Proofs.YtjdmggaeagnolaaGreatDoor.V
/- Contracts of the package device: Image, Pending, Geo, New, Load, Rot. -/
namespace Go.Proofs.YtjdmggaeagnolaaGreatDoor.V
open Go Go.Proofs Go.RowKit Crc
theorem elem_strK' : ElemK Tryz.prog 85 9 (.string ByteArray.empty) strE.k 16 := ⟨by kernel_rfl, by kernel_rfl, by kernel_rfl⟩
theorem elem_strS : Elem Tryz.prog 85 9 (.string ByteArray.empty) 16 := ⟨by kernel_rfl, by kernel_rfl, by kernel_rfl⟩
theorem pending_calls {w : World} {b : Nat} {d : Dev} {F : Nat → Prop} (h : DevAt w b d F) (hn : d.pen.length ≤ 1000000) :
    Calls Tryz.prog 16 #[.pointer (some ⟨b, 0, none⟩)] w (Ret fun v w' => ∃ A c, v = .slice A d.pen.length c ∧ Owni writeE 99 w' w.heap.size A d.pen.length c d.pen ∧ Ext w w') := by
  obtain ⟨Ad, Ap, nd, cd, np, cp, t, hb, hd, hp, hF, h1, h2, h3⟩ := h.mem
  apply calls16
  unfold S16
  obtain rfl := hp.len
  refine splitW_f (by rfl) (ptr_i (boxF 3 (Ap, d.pen.length, cp) hb (by rfl) ?_))
  refine callW_of (R := fun v w' => ∃ A c, v = .slice A d.pen.length c ∧ Owni writeE 99 w' w.heap.size A d.pen.length c d.pen ∧ Ext w w') ?_ ?_
  · apply calls47
    unfold S47
    exact clone_i (K := fun v w' => ∃ A c, v = .slice A d.pen.length c ∧ Owni writeE 99 w' w.heap.size A d.pen.length c d.pen ∧ Ext w w') (E := writeE) (n := d.pen.length) (bytes := 24) (z := .agg #[.int .i64 0, .string ByteArray.empty]) elem_write hp.sl (by omega) (by omega) fun A' c' w' ho he => ⟨A', c', rfl, ho, he⟩
  · rintro _ w1 ⟨A, c, rfl, ho, he⟩
    exact ⟨(A, d.pen.length, c), rfl, A, c, rfl, ho, he⟩
theorem clones_calls {w : World} {A : Option Addr} {n c : Nat} {xs : List ByteArray} (h : Sli strE w A n xs) (hn : n ≤ 1000000) :
    Calls Tryz.prog 48 #[.slice A n c] w (Ret fun v w' => ∃ A c, v = .slice A n c ∧ Owni strE 9 w' w.heap.size A n c xs ∧ Ext w w') := by
  apply calls48
  unfold S48
  exact clone_i (K := fun v w' => ∃ A c, v = .slice A n c ∧ Owni strE 9 w' w.heap.size A n c xs ∧ Ext w w') elem_strK' h (by omega) (by omega) fun A' c' w' ho he => ⟨A', c', rfl, ho, he⟩
theorem Dev.Ok.dims {d : Dev} (h : d.Ok) : 128 ≤ d.size ∧ d.size ≤ 4096 ∧ d.size % 64 = 0 ∧ 8 ≤ d.blocks ∧ d.blocks ≤ 4096 ∧ d.dur.length = d.blocks.toNat := by
  have := h.geo
  unfold geoOK at this
  obtain ⟨h1, h2, h3, h4, h5⟩ := of_decide_eq_true this
  rw [Int.tmod_eq_emod_of_nonneg (by omega)] at h3
  have := h.len
  omega
theorem geo_calls {w : World} {b : Nat} {d : Dev} {F : Nat → Prop} (h : DevAt w b d F) :
    Calls Tryz.prog 35 #[.pointer (some ⟨b, 0, none⟩)] w (Ret fun v w' => v = .agg #[.int .i64 d.size, .int .i64 d.blocks] ∧ Ext w w') := by
  apply calls35
  unfold S35
  refine new_i fun r1 w1 hb1 he1 hr1 hz1 => ?_
  obtain ⟨Ad, Ap, nd, cd, np, cp, t, hb, hd, hp, hF, h1, h2, h3⟩ := (h.ext he1).mem
  refine splitW_f (by rfl) (ptr_i ?_)
  refine ldA_i (ls := [.int .i64, .int .i64]) (x := (d.size, d.blocks, ())) ⟨by rw [add_mk, hb.cell]; rfl, by rw [add_mk, hb.cell]; rfl, trivial⟩ ?_
  refine refill (vs := [.int .i64 d.size, .int .i64 d.blocks]) hb1 (by rfl) (by intro v hv; simp at hv; rcases hv with rfl | rfl <;> rfl) (by rfl) ?_
  intro w2 hb2 hx2 hk2 hs2
  refine boxA (ls := [.int .i64, .int .i64]) (d.size, d.blocks, ()) hb2 rfl ?_
  exact ⟨rfl, hx2 w he1 (by omega)⟩
theorem mul_calls (w : World) (x y : Nat) (hx : x < 18446744073709551616) (hy : y < 18446744073709551616) : Calls Tryz.prog 113 #[.int .u64 x, .int .u64 y] w (Ret fun v w' => v = .tuple #[.int .u64 ((x * y / 18446744073709551616 : Nat) : Int), .int .u64 ((x * y % 18446744073709551616 : Nat) : Int)] ∧ w' = w) :=
  (Tryz.bits_Mul x y hx hy w).mono (by rintro e w' ⟨rfl, h⟩; exact ⟨rfl, h⟩)
theorem rep_step {s z : ByteArray} {n c : Nat} (hn : n ≤ c) {m : Nat} (hm : m = min n (c - n)) :
    (strE.flat (List.replicate n s ++ List.replicate (c - n) z)).take n ++ ((strE.flat (List.replicate n s)).take m) ++ (strE.flat (List.replicate n s ++ List.replicate (c - n) z)).drop (n + m) = strE.flat (List.replicate (n + m) s ++ List.replicate (c - (n + m)) z) := by
  simp only [strE_flat, List.map_append, List.map_replicate]
  rw [List.take_left' (by simp), List.drop_append, List.take_replicate, List.drop_replicate, List.drop_replicate, show min m n = m by omega, show n - (n + m) = 0 by omega, List.replicate_zero, List.nil_append, List.length_replicate,
    List.replicate_append_replicate, show c - n - (n + m - n) = c - (n + m) by omega]
theorem rep_calls {w : World} {A : Option Addr} {c k : Nat} {s : ByteArray} (h : Sli strE w A 1 [s]) (h1 : 1 ≤ k) (hk : k ≤ 1000000) :
    Calls Tryz.prog 91 #[.slice A 1 c, .int .i64 (k : Int)] w (Ret fun v w' => ∃ A', v = .slice A' k k ∧ Owni strE 9 w' w.heap.size A' k k (List.replicate k s) ∧ Ext w w') := by
  apply calls91
  unfold S91
  refine joinW_i fun J hJ => splitW_f (decide_eq_false (by omega)) (hJ () _ ?_)
  rw [wrap_u64_nat (by omega), wrap_u64_nat (by omega)]
  refine callW_of (mul_calls w 1 k (by omega) (by omega)) ?_
  rintro _ w1 ⟨rfl, hw⟩
  subst hw
  rw [Nat.one_mul, Nat.div_eq_of_lt (by omega), Nat.mod_eq_of_lt (by omega)]
  refine ⟨((0 : Nat), (k : Nat), ()), rfl, ?_⟩
  dsimp only
  refine joinW_i fun J hJ => splitW_f (by rfl) (splitW_f (decide_eq_false (by omega)) (hJ () _ ?_))
  rw [wrap_i64 (by omega) (by omega)]
  refine make_own (z := .string ByteArray.empty) elem_strS (by rfl) (Nat.le_refl _) (by omega) (by omega) ?_
  intro w2 ho2 hg2
  have he2 : Ext w1 w2 := (Ext.refl w1).none hg2
  have hb2 := own_full ho2
  have e0 : List.replicate k (Value.string ByteArray.empty) = strE.flat (List.replicate 0 s ++ List.replicate (k - 0) ByteArray.empty) := by rw [strE_flat]; simp
  dsimp only
  have hA : A ≠ none := by
    obtain ⟨a, h2, _⟩ := h.2.2 (by omega)
    rw [h2]; simp
  have hsl : Sl w2 A 1 [.string s] := by
    obtain ⟨p1, p2, p3⟩ := h.ext he2
    exact ⟨rfl, by omega, fun hn => by obtain ⟨a, q1, _, q2⟩ := p3 hn; exact ⟨a, q1, q2⟩⟩
  refine copy_sl (o := 0) (n := k) elem_strS hb2 hsl (by intro y hy; simp at hy; subst hy; rfl) (by simp; omega) hA ?_
  intro w3 hb3 hg3
  have he3 : Ext w1 w3 := he2.grown hg3 (fun j hj => by injection hj with hj; omega)
  rw [show min 1 k = 1 by omega] at hb3 ⊢
  have hb3 : Blk w3 w1.heap.size (strE.flat (List.replicate 1 s ++ List.replicate (k - 1) ByteArray.empty)) 9 := by
    have e : List.take 0 (List.replicate k (Value.string ByteArray.empty)) ++ List.take 1 [Value.string s] ++ List.drop (0 + 1) (List.replicate k (Value.string ByteArray.empty)) = strE.flat (List.replicate 1 s ++ List.replicate (k - 1) ByteArray.empty) := by
      rw [strE_flat]; simp
    rw [← e]; exact hb3
  refine loopW_i (fun y w' => ∃ i : Nat, 1 ≤ i ∧ i ≤ k ∧ y = ((i : Int), ()) ∧ Blk w' w1.heap.size (strE.flat (List.replicate i s ++ List.replicate (k - i) ByteArray.empty)) 9 ∧ Ext w1 w') (fun y => (k - y.1).toNat) ⟨1, by omega, h1, rfl, hb3, he3⟩ ?_
  rintro _ w4 ⟨i, hi1, hi, rfl, hb4, he4⟩
  dsimp only
  by_cases hlt : i < k
  · refine splitW_t (decide_eq_true (by omega)) ?_
    refine draw_i fun w5 he5 _ _ => ?_
    have hb5 := hb4.ext he5
    refine guard_i (by omega) (guard_i (by omega) ?_)
    rw [Int.toNat_natCast]
    have hcut : cutAddr (some (⟨w1.heap.size, 0, none⟩ : Addr)) i k 1 = some ⟨w1.heap.size, i, none⟩ := by
      unfold cutAddr
      rw [if_neg (by omega)]
      simp [add_mk]
    have hcut0 : cutAddr (some (⟨w1.heap.size, 0, none⟩ : Addr)) 0 k 1 = some ⟨w1.heap.size, 0, none⟩ := by
      unfold cutAddr
      rw [if_neg (by omega)]
      simp [add_mk]
    rw [hcut, hcut0]
    have hsl5 : Sl w5 (some ⟨w1.heap.size, 0, none⟩) i (strE.flat (List.replicate i s)) := by
      refine ⟨by rw [strE_flat]; simp, by omega, fun _ => ⟨_, rfl, fun j v hj => ?_⟩⟩
      rw [add_mk, hb5.cell, Nat.zero_add, strE_flat, List.map_append, List.getElem?_append_left (by rw [strE_flat] at hj; exact (List.getElem?_eq_some_iff.1 hj).1), ← strE_flat]
      exact hj
    refine copy_sl (n := k - i) elem_strS hb5 hsl5 (strE.flat_one _) (by rw [strE_flat]; simp; omega) (by simp) ?_
    intro w6 hb6 hg6
    rw [rep_step (by omega) rfl] at hb6
    refine ⟨⟨i + min i (k - i), by omega, by omega, by rw [wrap_i64 (by omega) (by omega)]; simp, hb6, (he4.trans he5).grown hg6 (fun j hj => by injection hj with hj; omega)⟩, by rw [wrap_i64 (by omega) (by omega)]; omega⟩
  · obtain rfl : i = k := by omega
    refine splitW_f (decide_eq_false (by omega)) ?_
    refine ⟨_, rfl, owni_of_blk ?_ (by simp) (by omega) (Nat.le_refl _), he4⟩
    simpa using hb4
end Go.Proofs.YtjdmggaeagnolaaGreatDoor.V
/- Contracts of the package device: New, Load, Rot. -/
namespace Go.Proofs.YtjdmggaeagnolaaGreatDoor.V
open Go Go.Proofs Go.RowKit Crc
def zeroB (n : Nat) : ByteArray := mkB (List.replicate n 0)
theorem zeroB_size (n : Nat) : (zeroB n).size = n := by rw [zeroB, mkB_size]; simp
def dev0 (size blocks : Int) : Dev := ⟨size, blocks, List.replicate blocks.toNat (zeroB size.toNat), [], 0, -1⟩
theorem geo_dims {size blocks : Int} (h : geoOK size blocks = true) : 128 ≤ size ∧ size ≤ 4096 ∧ size % 64 = 0 ∧ 8 ≤ blocks ∧ blocks ≤ 4096 := by
  unfold geoOK at h
  obtain ⟨h1, h2, h3, h4, h5⟩ := of_decide_eq_true h
  rw [Int.tmod_eq_emod_of_nonneg (by omega)] at h3
  omega
theorem dev0_ok {size blocks : Int} (h : geoOK size blocks = true) : (dev0 size blocks).Ok := by
  have := geo_dims h
  refine ⟨h, ?_, ?_, (fun p hp => by cases hp), (by show (-1 : Int) ≤ -1; omega), (by show (-1 : Int) < 9223372036854775808; omega)⟩
  · show ((List.replicate blocks.toNat (zeroB size.toNat)).length : Int) = blocks
    rw [List.length_replicate]; omega
  · intro s hs
    rw [(List.mem_replicate.1 hs).2, zeroB_size]
    show ((size.toNat : Nat) : Int) = size
    omega
def DevNew (w : World) (d : Dev) (b : Nat) (w' : World) : Prop := ∃ F : Nat → Prop, DevAt w' b d F ∧ (∀ k, F k → w.heap.size ≤ k) ∧ Ext w w'
theorem DevNew.pre {w0 w w' : World} {d : Dev} {b : Nat} (h : DevNew w d b w') (he : Ext w0 w) : DevNew w0 d b w' := by
  obtain ⟨F, h1, h2, h3⟩ := h
  exact ⟨F, h1, fun k hk => Nat.le_trans he.size (h2 k hk), he.trans h3⟩
theorem devAt_new {w : World} {b nd cd : Nat} {Ad : Option Addr} {t : TypeId} {d : Dev} (hb : Blk w b [.int .i64 d.size, .int .i64 d.blocks, .slice Ad nd cd, .slice none 0 0, .int .i64 d.ops, .int .i64 d.fuse] t)
    (hd : Owni strE 9 w 0 Ad nd cd d.dur) (hp : d.pen = []) (hne : orow Ad ≠ some b) (hok : d.Ok) : DevAt w b d (fun k => k = b ∨ orow Ad = some k ∨ orow none = some k) := by
  refine ⟨⟨Ad, none, nd, cd, 0, 0, t, hb, hd, ?_, fun k => Iff.rfl, hne, (fun e => by cases e), (fun j hj e => by cases e)⟩, hok⟩
  rw [hp]
  exact Owni.nil _ _ _
theorem repeat1 (n : Nat) : Lib.repeatL [0] n = List.replicate n (0 : UInt8) := by
  induction n with
  | zero => rfl
  | succ n ih => rw [Lib.repeatL, ih, List.replicate_succ]; rfl
theorem dnew_calls (w : World) (size blocks : Int) :
    Calls Tryz.prog 51 #[.agg #[.int .i64 size, .int .i64 blocks]] w (Ret fun v w' => (geoOK size blocks = true ∧ ∃ b, v = .tuple #[.pointer (some ⟨b, 0, none⟩), .int .i64 0] ∧ DevNew w (dev0 size blocks) b w') ∨ (geoOK size blocks = false ∧ v = .tuple #[.pointer none, .int .i64 2] ∧ Ext w w')) := by
  apply calls51
  unfold S51
  refine new_i fun r1 w1 hb1 he1 hr1 hz1 => ?_
  have hb1 : Blk w1 r1 [.int .i64 size, .int .i64 blocks] 23 := hb1
  refine boxA (ls := [.int .i64, .int .i64]) (size, blocks, ()) hb1 rfl ?_
  refine callW_of (devcheck_calls w1 size blocks) ?_
  rintro _ w2 ⟨rfl, he2⟩
  refine ⟨_, rfl, ?_⟩
  have hb2 := hb1.ext he2
  cases hok : geoOK size blocks with
  | false => exact splitW_t (by rfl) (.inr ⟨rfl, rfl, he1.trans he2⟩)
  | true =>
    have hg := geo_dims hok
    refine splitW_f (by rfl) ?_
    refine draw_i fun w3 he3 _ _ => ?_
    have hb3 := hb2.ext he3
    refine boxA (ls := [.int .i64, .int .i64]) (size, blocks, ()) hb3 rfl ?_
    refine box0 size hb3 (by rfl) (boxF 1 blocks hb3 (by rfl) ?_)
    have hr := Tryz.strings_Repeat (ByteArray.mk #[0]) size.toNat w3 (by omega) (by show 1 * size.toNat ≤ _; omega)
    rw [Int.toNat_of_nonneg (by omega), show (ByteArray.mk #[0]).data.toList = [0] from rfl, repeat1] at hr
    refine callW_of (R := fun v w' => v = .string (zeroB size.toNat) ∧ Ext w3 w') (hr.mono (by rintro e w' ⟨rfl, h⟩; exact ⟨rfl, h⟩)) ?_
    rintro _ w4 ⟨rfl, he4⟩
    refine ⟨_, rfl, ?_⟩
    have hb4 := hb3.ext he4
    refine h2_i (held1F hb4 (by rfl)) (heldAgg hb4) ?_
    refine new_i fun r8 w5 hb8 he5 hr8 hz8 => ?_
    have hb5 := hb4.ext he5
    refine h2_i (held1F hb5 (by rfl)) (heldAgg hb5) ?_
    have hs8 : Sli strE w5 (some ⟨r8, 0, none⟩) 1 [zeroB size.toNat] := Sli.of_blk (E := strE) (xs := [zeroB size.toNat]) hb8 rfl (by omega)
    have hrep := rep_calls (c := 1) (k := blocks.toNat) hs8 (by omega) (by omega)
    rw [Int.toNat_of_nonneg (by omega)] at hrep
    refine callW_of hrep ?_
    rintro _ w6 ⟨A, rfl, ho, he6⟩
    refine ⟨(A, _, _), rfl, ?_⟩
    have hb6 := hb5.ext he6
    refine h1_i (heldAgg hb6) ?_
    refine new_i fun r10 w7 hb10 he7 hr10 hz10 => ?_
    have hb10 : Blk w7 r10 [.int .i64 size, .int .i64 blocks, .slice A blocks.toNat blocks.toNat, .slice none 0 0, .int .i64 0, .int .i64 (-1)] 101 := hb10
    have hall := ((((((he1.trans he2).trans he3).trans he4).trans he5).trans he6).trans he7)
    have hpre := (((((he1.trans he2).trans he3).trans he4).trans he5))
    have hlt : ∀ j, orow A = some j → j < w6.heap.size := ho.row_lt
    refine .inl ⟨rfl, r10, rfl, _, devAt_new (d := dev0 size blocks) hb10 ((ho.ext he7).lower (Nat.zero_le _)) rfl (fun e => by have := hlt _ e; omega) (dev0_ok hok), ?_, hall⟩
    rintro k (rfl | hk | hk)
    · have := (hpre.trans he6).size; omega
    · have := ho.row k hk
      have := hpre.size
      omega
    · cases hk
end Go.Proofs.YtjdmggaeagnolaaGreatDoor.V
/- Frames: plain, and the contracts of the package frame. -/
namespace Go.Proofs.YtjdmggaeagnolaaGreatDoor.V
open Go Go.Proofs Go.RowKit Crc
abbrev Fra := UInt8 × Nat × ByteArray
def fra0 : Fra := (0, 0, ByteArray.empty)
def fT (f : Fra) : Int × Int × ByteArray × Unit := ((f.1.toNat : Int), (f.2.1 : Int), f.2.2, ())
def fV (f : Fra) : List Value := [.int .u8 (f.1.toNat : Int), .int .u64 (f.2.1 : Int), .string f.2.2]
theorem fV_one (f : Fra) : ∀ v ∈ fV f, v.oneCell' = true := by
  intro v hv
  simp only [fV, List.mem_cons, List.not_mem_nil, or_false] at hv
  rcases hv with rfl | rfl | rfl <;> rfl
def headB (f : Fra) : List UInt8 := [f.1, 0] ++ le 2 (B f.2.2).length ++ le 8 f.2.1
def bodyB (size : Nat) (f : Fra) : List UInt8 := headB f ++ B f.2.2 ++ List.replicate (size - 16 - (B f.2.2).length) 0
def putB (size : Nat) (f : Fra) : List UInt8 := bodyB size f ++ le 4 (crc (bodyB size f)).toNat
def putR (size : Int) (f : Fra) : List UInt8 × Int := if roomOf size = 0 then ([], 2) else if ((B f.2.2).length : Int) > roomOf size then ([], 3) else (putB size.toNat f, 0)
def frameB (bs : List UInt8) : Fra := (bs.getD 0 0, lev ((bs.drop 4).take 8), ⟨((bs.drop 12).take (lev ((bs.drop 2).take 2))).toArray⟩)
def getR (bs : List UInt8) : Fra × Int :=
  if roomOf bs.length = 0 then (fra0, 2)
  else if (crc (bs.take (bs.length - 4))).toNat ≠ lev (bs.drop (bs.length - 4)) then (fra0, 10)
  else if (lev ((bs.drop 2).take 2) : Int) > roomOf bs.length then (fra0, 4)
  else if putR bs.length (frameB bs) = (bs, 0) then (frameB bs, 0) else (fra0, 4)
def kindR (bs : List UInt8) (tag : UInt8) : Fra × Int := if (getR bs).2 = 0 ∧ (getR bs).1.1 ≠ tag then (fra0, 11) else getR bs
theorem headB_length (f : Fra) : (headB f).length = 12 := by simp [headB, le_length]
theorem bodyB_length {size : Nat} {f : Fra} (h : (B f.2.2).length + 16 ≤ size) : (bodyB size f).length = size - 4 := by
  simp only [bodyB, List.length_append, headB_length, List.length_replicate]; omega
theorem putB_length {size : Nat} {f : Fra} (h : (B f.2.2).length + 16 ≤ size) : (putB size f).length = size := by
  simp only [putB, List.length_append, bodyB_length h, le_length]; omega
theorem roomOf_cases (size : Int) : roomOf size = 0 ∨ (roomOf size = size - 16 ∧ 128 ≤ size ∧ size ≤ 4096 ∧ geoOK size 8 = true) := by
  unfold roomOf
  cases h : geoOK size 8 with
  | false => left; rfl
  | true =>
    right
    have h2 := h
    unfold geoOK at h2
    have h2 := of_decide_eq_true h2
    exact ⟨rfl, by omega, by omega, rfl⟩
theorem putR_ok {size : Int} {f : Fra} (h : (putR size f).2 = 0) : roomOf size = size - 16 ∧ 128 ≤ size ∧ size ≤ 4096 ∧ (B f.2.2).length + 16 ≤ size.toNat ∧ (putR size f).1 = putB size.toNat f := by
  unfold putR at h ⊢
  rcases roomOf_cases size with h0 | ⟨h0, h1, h2, _⟩
  · rw [if_pos h0] at h; cases h
  · rw [if_neg (by omega)] at h ⊢
    split at h
    · cases h
    · rename_i hr
      rw [if_neg hr]
      exact ⟨h0, h1, h2, by omega, rfl⟩
theorem lev_le2 {n : Nat} (h : n < 65536) : lev (le 2 n) = n := by rw [lev_le]; omega
theorem lev_le8 {n : Nat} (h : n < 18446744073709551616) : lev (le 8 n) = n := by rw [lev_le]; omega
theorem getR_putB {size : Nat} {f : Fra} (hr : roomOf size = (size : Int) - 16) (h1 : 128 ≤ size) (h2 : size ≤ 4096) (hd : (B f.2.2).length + 16 ≤ size) (hg : f.2.1 < 18446744073709551616) : getR (putB size f) = (f, 0) := by
  have hlen := putB_length hd
  have hbl := bodyB_length hd
  have hlt := (crc (bodyB size f)).isLt
  have e1 : (putB size f).take (size - 4) = bodyB size f := by unfold putB; rw [List.take_left' hbl]
  have e2 : (putB size f).drop (size - 4) = le 4 (crc (bodyB size f)).toNat := by unfold putB; rw [List.drop_left' hbl]
  have e3 : lev (le 4 (crc (bodyB size f)).toNat) = (crc (bodyB size f)).toNat := by rw [lev_le]; omega
  have epre : putB size f = [f.1, 0] ++ (le 2 (B f.2.2).length ++ (le 8 f.2.1 ++ (B f.2.2 ++ (List.replicate (size - 16 - (B f.2.2).length) 0 ++ le 4 (crc (bodyB size f)).toNat)))) := by
    simp [putB, bodyB, headB]
  have e4 : ((putB size f).drop 2).take 2 = le 2 (B f.2.2).length := by
    rw [epre, List.drop_left' (i := 2) (l₁ := [f.1, 0]) (show [f.1, 0].length = 2 from rfl), List.take_left' (le_length _ _)]
  have e5 : ((putB size f).drop 4).take 8 = le 8 f.2.1 := by
    rw [epre, ← List.append_assoc, List.drop_left' (by simp [le_length]), List.take_left' (le_length _ _)]
  have e6 : ((putB size f).drop 12).take (B f.2.2).length = B f.2.2 := by
    rw [epre, ← List.append_assoc, ← List.append_assoc, List.drop_left' (by simp [le_length]), List.take_left' rfl]
  have e7 : (putB size f).getD 0 0 = f.1 := by rw [epre]; rfl
  have e8 : lev (((putB size f).drop 2).take 2) = (B f.2.2).length := by rw [e4]; exact lev_le2 (by omega)
  have ef : frameB (putB size f) = f := by
    unfold frameB
    rw [e8, e6, e7, e5, lev_le8 hg]
    rfl
  unfold getR
  rw [hlen, e1, e2, e3, e8, ef, if_neg (by omega), if_neg (by simp), if_neg (by omega)]
  have : putR size f = (putB size f, 0) := by
    unfold putR
    rw [if_neg (by omega), if_neg (by omega), Int.toNat_natCast]
  rw [if_pos this]
theorem getR_ok {bs : List UInt8} (h : (getR bs).2 = 0) : (getR bs).1 = frameB bs ∧ putR bs.length (frameB bs) = (bs, 0) := by
  unfold getR at h ⊢
  split at h
  · cases h
  · split at h
    · cases h
    · split at h
      · cases h
      · split at h
        · rename_i h1 h2 h3 h4
          rw [if_neg h1, if_neg h2, if_neg h3, if_pos h4]
          exact ⟨rfl, h4⟩
        · cases h
theorem getR_bad {bs : List UInt8} (h : (getR bs).2 ≠ 0) : (getR bs).1 = fra0 := by
  unfold getR at h ⊢
  split
  · rfl
  · split
    · rfl
    · split
      · rfl
      · split
        · rename_i h1 h2 h3 h4
          rw [if_neg h1, if_neg h2, if_neg h3, if_pos h4] at h
          exact absurd rfl h
        · rfl
theorem frameB_gen (bs : List UInt8) : (frameB bs).2.1 < 18446744073709551616 := by
  have h := lev_lt ((bs.drop 4).take 8)
  have h2 : ((bs.drop 4).take 8).length ≤ 8 := by simp; omega
  have : 256 ^ ((bs.drop 4).take 8).length ≤ 256 ^ 8 := Nat.pow_le_pow_right (by omega) h2
  unfold frameB
  dsimp only
  omega
theorem getR_gen (bs : List UInt8) : (getR bs).1.2.1 < 18446744073709551616 := by
  by_cases h : (getR bs).2 = 0
  · rw [(getR_ok h).1]; exact frameB_gen bs
  · rw [getR_bad h]; decide
theorem putfit_calls {w : World} {b o n c v k : Nat} {cs : List Value} {t : TypeId} (hb : Blk w b cs t) (ho : o + c ≤ cs.length) (hn : n + k ≤ c) (hc : c ≤ 9223372036854775000) (hv : v < 18446744073709551616) (hk1 : 1 ≤ k) (hk : k ≤ 8) :
    Calls Tryz.prog 58 #[.slice (some ⟨b, o, none⟩) n c, .int .u64 (v : Int), .int .i64 (k : Int)] w (Ret fun r w' => r = .slice (some ⟨b, o, none⟩) (n + k) c ∧ Blk w' b (cs.take (o + n) ++ bV (le k v) ++ cs.drop (o + n + k)) t ∧ w.grownBy w' (some b)) := by
  apply calls58
  unfold S58
  refine splitW_f (decide_eq_false (by omega)) ?_
  refine splitW_f (decide_eq_false (by omega)) ?_
  refine loopW_i (fun x w' => ∃ i : Nat, i ≤ k ∧ x = ((some ⟨b, o, none⟩, n + i, c), (i : Int), ()) ∧ Blk w' b (cs.take (o + n) ++ bV (le i v) ++ cs.drop (o + n + i)) t ∧ w.grownBy w' (some b)) (fun x => (k - x.2.1).toNat)
    ⟨0, by omega, rfl, by simpa [le, bV] using hb, grownBy_refl _ _⟩ ?_
  rintro _ w' ⟨i, hi, rfl, hbi, hg⟩
  dsimp only
  have hlen : (cs.take (o + n) ++ bV (le i v) ++ cs.drop (o + n + i)).length = cs.length := by
    simp only [List.length_append, List.length_take, List.length_drop, length_bV, le_length]
    omega
  by_cases hlt : i < k
  · refine splitW_t (decide_eq_true (by omega)) ?_
    have e1 : IntKind.wrap .i64 ((8 : Int) * (i : Int)) = ((8 * i : Nat) : Int) := by
      rw [wrap_i64 (by omega) (by omega)]
      omega
    rw [e1]
    refine ⟨by omega, ?_⟩
    rw [ishr_nat .u64 v (8 * i) (by simp [IntKind.bits]; omega), wrap_u8_nat, Nat.pow_mul, show (2 : Nat) ^ 8 = 256 from rfl]
    refine append_newfit (ys := bV [UInt8.ofNat (v / 256 ^ i)]) elem_u8 hbi (by omega) (by simp [bV]; omega) (by omega) (bV_one _) ?_
    intro w2 hb2 hg2
    refine ⟨⟨i + 1, by omega, ?_, ?_, grownBy_tr hg hg2 (fun j hj => .inl hj)⟩, ?_⟩
    · rw [wrap_i64 (by omega) (by omega)]; rfl
    · have hpl : (cs.take (o + n) ++ bV (le i v)).length = o + (n + i) := by
        simp only [List.length_append, List.length_take, length_bV, le_length]; omega
      have e2 : (cs.take (o + n) ++ bV (le i v) ++ cs.drop (o + n + i)).take (o + (n + i)) = cs.take (o + n) ++ bV (le i v) := List.take_left' hpl
      have e3 : (cs.take (o + n) ++ bV (le i v) ++ cs.drop (o + n + i)).drop (o + (n + i) + (bV [UInt8.ofNat (v / 256 ^ i)]).length) = cs.drop (o + n + (i + 1)) := by
        rw [← List.drop_drop, List.drop_left' hpl, List.drop_drop]
        rfl
      rw [e2, e3] at hb2
      rw [le_succ, bV_append, ← List.append_assoc]
      exact hb2
    · rw [wrap_i64 (by omega) (by omega)]; omega
  · obtain rfl : i = k := by omega
    refine splitW_f (decide_eq_false (by omega)) ?_
    exact ⟨rfl, hbi, hg⟩
theorem fput_calls (w : World) (size : Int) {f : Fra} (hg : f.2.1 < 18446744073709551616) : Calls Tryz.prog 97 #[.int .i64 size, .agg (fV f).toArray] w (Ret fun v w' => v = .tuple #[.string ⟨(putR size f).1.toArray⟩, .int .i64 (putR size f).2] ∧ Ext w w') := by
  apply calls97
  unfold S97 putR
  refine new_i fun r1 w1 hb1 he1 hr1 _ => ?_
  refine callW_of (room_calls w1 size) ?_
  rintro _ w2 ⟨rfl, he2⟩
  refine ⟨_, rfl, ?_⟩
  have he2 := he1.trans he2
  have hb1 := hb1.ext (by assumption)
  have hds := B_size f.2.2
  rcases roomOf_cases size with h0 | ⟨h0, h1, h2, hgeo⟩
  · rw [h0, if_pos rfl]
    exact splitW_t (by rfl) ⟨rfl, he2⟩
  rw [if_neg (by omega)]
  refine splitW_f (by rw [beq_eq_false_iff_ne]; omega) ?_
  refine boxF 2 f.2.2 hb1 (by rfl) ?_
  refine splitW_i (fun hlong => ?_) (fun hfit => ?_)
  · have hlong := of_decide_eq_true hlong
    rw [if_pos (by omega)]
    exact ⟨rfl, he2⟩
  have hfit := of_decide_eq_false hfit
  rw [if_neg (by omega)]
  obtain ⟨sz, rfl⟩ : ∃ sz : Nat, size = sz := ⟨size.toNat, by omega⟩
  rw [Int.toNat_natCast]
  generalize hd : (B f.2.2).length = d at *
  refine make_own (B := w2.heap.size) elem_u8 rfl (Nat.le_refl _) (by omega) (by omega) ?_
  intro w3 ho3 hg3
  have hrow : Blk w3 w2.heap.size (List.replicate sz (.int .u8 0)) 5 := own_full ho3
  have he3 : Ext w w3 := he2.none hg3
  have h23 : Ext w2 w3 := (Ext.refl w2).none hg3
  have hb1 := hb1.ext h23
  have hsz := he2.size
  have hr1lt := he1.size
  have hw1 : r1 < w2.heap.size := by have := (hb1).lt; have := he2.size; have hh : w1.heap.size ≤ w2.heap.size := (by assumption : Ext w1 w2).size; omega
  generalize hbb : w2.heap.size = b at *
  have ez : (List.replicate sz (Value.int .u8 0)) = bV (List.replicate sz 0) := by simp [bV]
  rw [ez] at hrow
  refine draw_i fun w4 he4 _ _ => ?_
  have hrow := hrow.ext he4
  have hb1 := hb1.ext he4
  have he4 := he3.trans he4
  refine guard_i ⟨by omega, by omega, by dsimp only; omega⟩ ?_
  refine box0 (f.1.toNat : Int) hb1 (by rfl) ?_
  have hcut : cutAddr (some (⟨b, 0, none⟩ : Addr)) 0 (Int.toNat 12) 1 = some ⟨b, 0, none⟩ := rfl
  dsimp only
  rw [hcut, show Int.toNat 0 = 0 from rfl, show Int.toNat 12 = 12 from rfl]
  have e0 : #[Value.int .u8 (f.1.toNat : Int), Value.int .u8 0] = (bV [f.1, 0]).toArray := rfl
  rw [e0]
  have grow : ∀ {w' w'' : World}, Ext w w' → w'.grownBy w'' (some b) → Ext w w'' := fun he hg => he.grown hg (fun j hj => by injection hj with hj; omega)
  have keep : ∀ {w' w'' : World} {cs : List Value} {t : TypeId}, Blk w' r1 cs t → w'.grownBy w'' (some b) → Blk w'' r1 cs t := fun h hg => h.grown hg (by simp; omega)
  have hrl : ∀ k : Nat, (bV (List.replicate k (0 : UInt8))).length = k := fun k => by rw [length_bV, List.length_replicate]
  refine append_newfit (ys := bV [f.1, 0]) (n := 0) (c := 12) elem_u8 hrow (by rw [hrl]; omega) (by simp [bV]) (by omega) (bV_one _) ?_
  intro w5 hrow5 hg5
  have he5 := grow he4 hg5
  have hb1 := keep hb1 hg5
  have s5 : (bV (List.replicate sz (0 : UInt8))).take (0 + 0) ++ bV [f.1, 0] ++ (bV (List.replicate sz (0 : UInt8))).drop (0 + 0 + (bV [f.1, 0]).length) = bV ([f.1, 0] ++ List.replicate (sz - 2) 0) := by
    rw [bV_append]
    simp [bV]
  rw [s5] at hrow5
  dsimp only
  refine boxF 2 f.2.2 hb1 (by rfl) ?_
  rw [hds, wrap_u64_nat (by omega)]
  refine callW_of (putfit_calls (o := 0) (n := 0 + (bV [f.1, 0]).length) (c := 12) (k := 2) hrow5 (by rw [length_bV]; simp; omega) (by simp [bV]) (by omega) (by omega) (by omega) (by omega)) ?_
  rintro _ w6 ⟨rfl, hrow6, hg6⟩
  refine ⟨(some ⟨b, 0, none⟩, 0 + (bV [f.1, 0]).length + 2, 12), rfl, ?_⟩
  have he6 := grow he5 hg6
  have hb1 := keep hb1 hg6
  have s6 : (bV ([f.1, 0] ++ List.replicate (sz - 2) 0)).take (0 + (0 + (bV [f.1, 0]).length)) ++ bV (le 2 d) ++ (bV ([f.1, 0] ++ List.replicate (sz - 2) 0)).drop (0 + (0 + (bV [f.1, 0]).length) + 2) = bV (([f.1, 0] ++ le 2 d) ++ List.replicate (sz - 2 - 2) 0) := by
    have := put_at [f.1, 0] (le 2 d) (sz - 2) (by rw [le_length]; omega)
    rw [le_length] at this
    rw [bV_take, bV_drop, ← bV_append, ← bV_append]
    exact congrArg bV this
  rw [s6] at hrow6
  dsimp only
  refine boxF 1 (f.2.1 : Int) hb1 (by rfl) ?_
  refine callW_of (putfit_calls (o := 0) (c := 12) (k := 8) hrow6 (by rw [length_bV]; simp [le_length]; omega) (by simp [bV]) (by omega) hg (by omega) (by omega)) ?_
  rintro _ w7 ⟨rfl, hrow7, hg7⟩
  refine ⟨(some ⟨b, 0, none⟩, 0 + (bV [f.1, 0]).length + 2 + 8, 12), rfl, ?_⟩
  have he7 := grow he6 hg7
  have hb1 := keep hb1 hg7
  have s7 : (bV (([f.1, 0] ++ le 2 d) ++ List.replicate (sz - 2 - 2) 0)).take (0 + (0 + (bV [f.1, 0]).length + 2)) ++ bV (le 8 f.2.1) ++ (bV (([f.1, 0] ++ le 2 d) ++ List.replicate (sz - 2 - 2) 0)).drop (0 + (0 + (bV [f.1, 0]).length + 2) + 8) = bV (headB f ++ List.replicate (sz - 12) 0) := by
    have := put_at ([f.1, 0] ++ le 2 d) (le 8 f.2.1) (sz - 2 - 2) (by rw [le_length]; omega)
    rw [le_length] at this
    have hh : headB f = [f.1, 0] ++ le 2 d ++ le 8 f.2.1 := by unfold headB; rw [hd]
    have hl4 : ([f.1, 0] ++ le 2 d).length = 4 := by simp [le_length]
    rw [hl4] at this
    rw [hh, show sz - 12 = sz - 2 - 2 - 8 by omega, ← this, bV_take, bV_drop, ← bV_append, ← bV_append]
    rfl
  rw [s7] at hrow7
  refine draw_i fun w8 he8 _ _ => ?_
  have hrow8 := hrow7.ext he8
  have hb1 := hb1.ext he8
  have he8 := he7.trans he8
  refine guard_i ⟨by omega, by omega⟩ ?_
  refine boxF 2 f.2.2 hb1 (by rfl) ?_
  have hcut2 : cutAddr (some (⟨b, 0, none⟩ : Addr)) 12 sz 1 = some ⟨b, 12, none⟩ := by
    unfold cutAddr
    rw [if_neg (by show ¬ sz = 12; omega)]
    show some ((⟨b, 0, none⟩ : Addr).add 12) = _
    rw [add_mk, Nat.zero_add]
  rw [hcut2]
  refine copy_str elem_u8 hrow8 (by rw [length_bV, List.length_append, headB_length, List.length_replicate]; omega) ?_
  intro w9 hrow9 hg9
  have he9 := grow he8 hg9
  have s9 : (bV (headB f ++ List.replicate (sz - 12) 0)).take 12 ++ bV ((B f.2.2).take (sz - 12)) ++ (bV (headB f ++ List.replicate (sz - 12) 0)).drop (12 + min (B f.2.2).length (sz - 12)) = bV (bodyB sz f ++ List.replicate 4 0) := by
    have := put_at (headB f) (B f.2.2) (sz - 12) (by omega)
    rw [headB_length] at this
    rw [List.take_of_length_le (show (B f.2.2).length ≤ sz - 12 by omega), Nat.min_eq_left (by omega), bV_take, bV_drop, ← bV_append, ← bV_append, this]
    congr 1
    unfold bodyB
    rw [List.append_assoc (headB f ++ B f.2.2), hd, List.replicate_append_replicate]
    congr 2
    omega
  rw [s9] at hrow9
  have hbody : (bodyB sz f).length = sz - 4 := bodyB_length (by omega)
  refine draw_i fun w10 he10 _ _ => ?_
  have hrow10 := hrow9.ext he10
  have he10 := he9.trans he10
  rw [wrap_i64 (x := (sz : Int) - 4) (by omega) (by omega), show Int.toNat ((sz : Int) - 4) = sz - 4 by omega]
  refine guard_i ⟨by omega, by omega, by omega, by omega⟩ (guard_i ⟨by omega, by omega⟩ ?_)
  have hsl : Sl w10 (cutAddr (some ⟨b, 0, none⟩) 0 sz 1) (sz - 4) (bV (bodyB sz f)) := by
    have := (Sl.of_blk hrow10 (n := sz) (by rw [length_bV, List.length_append, hbody, List.length_replicate]; omega) (by omega)).cut0 (k := sz - 4) (m := sz) (by omega) (by omega)
    rw [bV_take, List.take_left' hbody] at this
    exact this
  refine callW_of (crc_calls hsl) ?_
  rintro _ w11 ⟨rfl, he11⟩
  refine ⟨_, rfl, ?_⟩
  have hrow11 := hrow10.ext he11
  have he11 := he10.trans he11
  have hclt := (crc (bodyB sz f)).isLt
  rw [wrap_u64_nat (by omega)]
  have hcut3 : cutAddr (some (⟨b, 0, none⟩ : Addr)) (sz - 4) sz 1 = some ⟨b, sz - 4, none⟩ := by
    unfold cutAddr
    rw [if_neg (by omega)]
    show some ((⟨b, 0, none⟩ : Addr).add ((sz - 4) * 1)) = _
    rw [add_mk, Nat.zero_add, Nat.mul_one]
  rw [hcut3, Nat.sub_self, show sz - (sz - 4) = 4 by omega]
  refine callW_of (putfit_calls (o := sz - 4) (n := 0) (c := 4) (k := 4) hrow11 (by rw [length_bV, List.length_append, hbody, List.length_replicate]; omega) (by omega) (by omega) (by omega) (by omega) (by omega)) ?_
  rintro _ w12 ⟨rfl, hrow12, hg12⟩
  refine ⟨(some ⟨b, sz - 4, none⟩, 0 + 4, 4), rfl, ?_⟩
  have he12 := grow he11 hg12
  have s12 : (bV (bodyB sz f ++ List.replicate 4 0)).take (sz - 4 + 0) ++ bV (le 4 (crc (bodyB sz f)).toNat) ++ (bV (bodyB sz f ++ List.replicate 4 0)).drop (sz - 4 + 0 + 4) = bV (putB sz f) := by
    have := put_at (bodyB sz f) (le 4 (crc (bodyB sz f)).toNat) 4 (by rw [le_length]; omega)
    rw [hbody, le_length] at this
    rw [bV_take, bV_drop, ← bV_append, ← bV_append, Nat.add_zero, this]
    simp [putB]
  rw [s12] at hrow12
  refine conv_str (e := 5) (by kernel_rfl) (by kernel_rfl) (by kernel_rfl) (Sl.of_blk hrow12 (by rw [length_bV, putB_length (by omega)]) (by omega)) ?_
  exact ⟨rfl, he12⟩
end Go.Proofs.YtjdmggaeagnolaaGreatDoor.V
/- Contracts of the package frame, and of the document's answer (4). -/
namespace Go.Proofs.YtjdmggaeagnolaaGreatDoor.V
open Go Go.Proofs Go.RowKit Crc
abbrev fLs : List Lf := [.int .u8, .int .u64, .str]
theorem setA {w : World} {r : Nat} {cs : List Value} {t : TypeId} {f : Fra} {K : (Int × Int × ByteArray × Unit) → WP} {us : Array Value} (hb : Blk w r cs t) (hl : cs.length = 3) (hu : us.size = 3)
    (hK : ∀ w', Blk w' r (fV f) t → (∀ w0, Ext w0 w → w0.heap.size ≤ r → Ext w0 w') → (∀ k : Nat, k ≠ r → w'.heap[k]? = w.heap[k]?) → w'.heap.size = w.heap.size → K (fT f) w') :
    (guardW (us.size = 3) <| stAW (⟨r, 0, none⟩ : Addr) (fV f) <| ldAW fLs (⟨r, 0, none⟩ : Addr) K) w :=
  refill (vs := fV f) hb (by rw [hl]; rfl) (fV_one f) hu fun w' hb' hx hs hz => boxA (ls := fLs) (fT f) hb' rfl (hK w' hb' hx hs hz)
theorem retA {w : World} {r : Nat} {t : TypeId} {f : Fra} {K : (Int × Int × ByteArray × Unit) → WP} (hb : Blk w r (fV f) t)
    (hK : ∀ w', (∀ w0, Ext w0 w → w0.heap.size ≤ r → Ext w0 w') → K (fT f) w') :
    (ldAW fLs (⟨r, 0, none⟩ : Addr) fun (u : Int × Int × ByteArray × Unit) => guardW ((#[(.int .u8 u.1), (.int .u64 u.2.1), (.string u.2.2.1)] : Array Value).size = 3) <| stAW (⟨r, 0, none⟩ : Addr) [(.int .u8 u.1), (.int .u64 u.2.1), (.string u.2.2.1)] <| ldAW fLs (⟨r, 0, none⟩ : Addr) K) w :=
  boxA (ls := fLs) (fT f) hb rfl (setA (f := f) hb rfl rfl fun w' _ hx _ _ => hK w' hx)
theorem boxed {w : World} {t : TypeId} {f : Fra} {K : Nat → WP} (hK : ∀ r w', Blk w' r (fV f) t → Ext w w' → w.heap.size ≤ r → K r w') :
    (newW (.cells #[(.int .u8 (0 : Int)), (.int .u64 (0 : Int)), (.string ByteArray.empty)] t) fun r => guardW ((#[(.int .u8 (fT f).1), (.int .u64 (fT f).2.1), (.string (fT f).2.2.1)] : Array Value).size = 3) <| stAW (⟨r, 0, none⟩ : Addr) [(.int .u8 (fT f).1), (.int .u64 (fT f).2.1), (.string (fT f).2.2.1)] (K r)) w :=
  box_i (vs := fV f) (by rfl) (fV_one f) (fun r w' hb he hr => hK r w' hb he hr) (by rfl)
theorem heldB {w : World} {A : Option Addr} {n : Nat} {bs : List UInt8} {a : Addr} {K : WP} (h : Sl w A n (bV bs)) (hA : A = some a) (hn : 0 < n) (hK : K w) : heldW [[((a.add (Int.toNat (0 : Int) * 1)), (.int .u8 ((bs.getD 0 0).toNat : Int)))]] K w := by
  refine ⟨fun l hl p hp => ?_, hK⟩
  simp only [List.mem_singleton] at hl
  subst hl
  simp only [List.mem_singleton] at hp
  subst hp
  have hl := h.blen
  obtain ⟨a', e, hc⟩ := h.2.2 hn
  rw [hA] at e
  injection e with e
  subst e
  have := hc 0 (.int .u8 ((bs.getD 0 0).toNat : Int)) (by simp [bV, show 0 < bs.length by omega])
  exact this
structure Looks (w : World) (A : Option Addr) (n c : Nat) (bs : List UInt8) : Prop where
  sl : Sl w A n (bV bs)
  nc : n ≤ c
  big : 128 ≤ n ∧ n ≤ 4096
theorem Looks.body {w : World} {A : Option Addr} {n c : Nat} {bs : List UInt8} (h : Looks w A n c bs) : Sl w (cutAddr A 0 c 1) (n - 4) (bV (bs.take (bs.length - 4))) := by
  have := h.sl.cut0 (k := n - 4) (m := c) (by have := h.big; omega) (by have := h.big; have := h.nc; omega)
  rw [bV_take] at this
  rw [h.sl.blen]
  exact this
theorem Looks.part {w : World} {A : Option Addr} {n c : Nat} {bs : List UInt8} (h : Looks w A n c bs) {l k : Nat} (hl : l + k ≤ n) (hk : 0 < k) : Sl w (cutAddr A l c 1) k (bV ((bs.drop l).take k)) := by
  have := h.sl.cut (l := l) (k := k) (m := c) (by omega) (by have := h.nc; omega)
  rw [bV_drop, bV_take] at this
  exact this
theorem Looks.tail {w : World} {A : Option Addr} {n c : Nat} {bs : List UInt8} (h : Looks w A n c bs) : Sl w (cutAddr A (n - 4) c 1) (n - (n - 4)) (bV (bs.drop (bs.length - 4))) := by
  have := h.part (l := n - 4) (k := n - (n - 4)) (by have := h.big; omega) (by have := h.big; omega)
  have hl := h.sl.blen
  rw [List.take_of_length_le (by simp; have := h.big; omega)] at this
  rw [hl]
  exact this
theorem Looks.ext {w w' : World} {A : Option Addr} {n c : Nat} {bs : List UInt8} (h : Looks w A n c bs) (he : Ext w w') : Looks w' A n c bs := ⟨h.sl.ext he, h.nc, h.big⟩
theorem getR_2 {bs : List UInt8} (h : roomOf bs.length = 0) : getR bs = (fra0, 2) := by unfold getR; rw [if_pos h]
theorem getR_10 {bs : List UInt8} (h : roomOf bs.length ≠ 0) (h1 : (crc (bs.take (bs.length - 4))).toNat ≠ lev (bs.drop (bs.length - 4))) : getR bs = (fra0, 10) := by unfold getR; rw [if_neg h, if_pos h1]
theorem getR_4 {bs : List UInt8} (h : roomOf bs.length ≠ 0) (h1 : (crc (bs.take (bs.length - 4))).toNat = lev (bs.drop (bs.length - 4))) (h2 : (lev ((bs.drop 2).take 2) : Int) > roomOf bs.length) : getR bs = (fra0, 4) := by unfold getR; rw [if_neg h, if_neg (by simp [h1]), if_pos h2]
theorem getR_4' {bs : List UInt8} (h : roomOf bs.length ≠ 0) (h1 : (crc (bs.take (bs.length - 4))).toNat = lev (bs.drop (bs.length - 4))) (h2 : ¬ (lev ((bs.drop 2).take 2) : Int) > roomOf bs.length) (h3 : putR bs.length (frameB bs) ≠ (bs, 0)) : getR bs = (fra0, 4) := by unfold getR; rw [if_neg h, if_neg (by simp [h1]), if_neg h2, if_neg h3]
theorem getR_0 {bs : List UInt8} (h : roomOf bs.length ≠ 0) (h1 : (crc (bs.take (bs.length - 4))).toNat = lev (bs.drop (bs.length - 4))) (h2 : ¬ (lev ((bs.drop 2).take 2) : Int) > roomOf bs.length) (h3 : putR bs.length (frameB bs) = (bs, 0)) : getR bs = (frameB bs, 0) := by unfold getR; rw [if_neg h, if_neg (by simp [h1]), if_neg h2, if_pos h3]
theorem lev_lt4 {bs : List UInt8} (h : bs.length ≤ 4) : lev bs < 4294967296 := by
  have := lev_lt bs
  have : 256 ^ bs.length ≤ 256 ^ 4 := Nat.pow_le_pow_right (by omega) h
  omega
theorem fget_calls (w : World) (s : ByteArray) (hs : s.size ≤ 9223372036854775807) : Calls Tryz.prog 68 #[.string s] w (Ret fun v w' => v = .tuple #[.agg (fV (getR (B s)).1).toArray, .int .i64 (getR (B s)).2] ∧ Ext w w') := by
  apply calls68
  unfold S68
  have hsz := B_size s
  refine new_i fun r1 w1 hb1 he1 hr1 _ => ?_
  have hb1 : Blk w1 r1 (fV fra0) 87 := hb1
  refine callW_of (room_calls w1 (s.size : Nat)) ?_
  rintro _ w2 ⟨rfl, he2⟩
  refine ⟨_, rfl, ?_⟩
  have hb1 := hb1.ext he2
  have he2 := he1.trans he2
  have hr1' : w.heap.size ≤ r1 := by omega
  have done : ∀ {w' : World} {f : Fra} {e : Int}, Ext w w' → Blk w' r1 (fV f) 87 → getR (B s) = (f, e) →
      (ldAW fLs (⟨r1, 0, none⟩ : Addr) fun (u : Int × Int × ByteArray × Unit) => guardW ((#[(.int .u8 u.1), (.int .u64 u.2.1), (.string u.2.2.1)] : Array Value).size = 3) <| stAW (⟨r1, 0, none⟩ : Addr) [(.int .u8 u.1), (.int .u64 u.2.1), (.string u.2.2.1)] <| ldAW fLs (⟨r1, 0, none⟩ : Addr) fun (u : Int × Int × ByteArray × Unit) => fun w'' => Value.tuple #[(.agg #[(.int .u8 u.1), (.int .u64 u.2.1), (.string u.2.2.1)]), (.int .i64 e)] = .tuple #[.agg (fV (getR (B s)).1).toArray, .int .i64 (getR (B s)).2] ∧ Ext w w'') w' := fun {w' f e} he hb hg =>
    retA hb fun w'' hx => ⟨by rw [hg]; rfl, hx w he hr1'⟩
  rw [hsz] at hs ⊢
  rcases roomOf_cases (B s).length with h0 | ⟨h0, h1, h2, hgeo⟩
  · rw [h0]
    exact splitW_t (by rfl) (done he2 hb1 (getR_2 h0))
  refine splitW_f (by rw [beq_eq_false_iff_ne]; omega) ?_
  have hne : roomOf (B s).length ≠ 0 := by omega
  refine conv_bytes (u := .string) (e := 5) (by kernel_rfl) (by kernel_rfl) (by kernel_rfl) (by omega) ?_
  intro c w3 hsl he3 hs3 hc
  have hL : Looks w3 (some ⟨w2.heap.size, 0, none⟩) s.size c (B s) := ⟨hsl, hc, by omega⟩
  rw [hsz] at hL
  have hb1 := hb1.ext he3
  have he3 := he2.trans he3
  refine draw_i fun w4 he4 _ _ => ?_
  have hL := hL.ext he4
  have hb1 := hb1.ext he4
  have he4 := he3.trans he4
  dsimp only
  rw [hsz]
  generalize hA : (some (⟨w2.heap.size, 0, none⟩ : Addr)) = A at hL ⊢
  rw [wrap_i64 (x := ((B s).length : Int) - 4) (by omega) (by omega), show Int.toNat (((B s).length : Int) - 4) = (B s).length - 4 by omega]
  refine guard_i ⟨by omega, by omega⟩ (guard_i ⟨by omega, by omega⟩ ?_)
  refine callW_of (crc_calls hL.body) ?_
  rintro _ w5 ⟨rfl, he5⟩
  refine ⟨_, rfl, ?_⟩
  have hL := hL.ext he5
  have hb1 := hb1.ext he5
  have he5 := he4.trans he5
  refine callW_of (octof_calls hL.tail (by omega)) ?_
  rintro _ w6 ⟨rfl, he6⟩
  refine ⟨_, rfl, ?_⟩
  have hL := hL.ext he6
  have hb1 := hb1.ext he6
  have he6 := he5.trans he6
  have hclt := (crc ((B s).take ((B s).length - 4))).isLt
  rw [wrap_u64_nat (by omega)]
  refine splitW_i (fun hbad => ?_) (fun hok => ?_)
  · have hbad := bne_iff_ne.1 hbad
    exact done he6 hb1 (getR_10 hne (fun e => hbad (by rw [e])))
  have hok : (crc ((B s).take ((B s).length - 4))).toNat = lev ((B s).drop ((B s).length - 4)) := by have := bne_eq_false_iff_eq.1 hok; omega
  refine guard_i ⟨by omega, by omega, by omega⟩ ?_
  have hp2 := hL.part (l := 2) (k := 2) (by omega) (by omega)
  refine callW_of (octof_calls (c := c - Int.toNat 2) hp2 (by omega)) ?_
  rintro _ w7 ⟨rfl, he7⟩
  refine ⟨_, rfl, ?_⟩
  have hL := hL.ext he7
  have hb1 := hb1.ext he7
  have he7 := he6.trans he7
  have hk := lev_lt4 (bs := ((B s).drop 2).take 2) (by simp; omega)
  rw [wrap_i64 (x := (lev (((B s).drop 2).take 2) : Int)) (by omega) (by omega)]
  refine splitW_i (fun hbig => ?_) (fun hfit => ?_)
  · exact done he7 hb1 (getR_4 hne hok (of_decide_eq_true hbig))
  have hfit := of_decide_eq_false hfit
  refine draw_i fun w8 he8 _ _ => ?_
  have hL := hL.ext he8
  have hb1 := hb1.ext he8
  have he8 := he7.trans he8
  refine guard_i ⟨by omega, by omega⟩ ?_
  obtain ⟨a, ha, hcell⟩ := hL.sl.2.2 (by omega)
  refine ⟨a, ha, ?_⟩
  have h00 : w8.cell? (a.add (Int.toNat (0 : Int) * 1)) = some (.int .u8 (((B s).getD 0 0).toNat : Int)) := hcell 0 _ (by simp [bV, show 0 < (B s).length by omega])
  refine ld_i (l := .int .u8) (x := (((B s).getD 0 0).toNat : Int)) h00 ?_
  rw [wrap_i64 (x := (12 : Int) + _) (by omega) (by omega), show Int.toNat ((12 : Int) + (lev (((B s).drop 2).take 2) : Int)) = 12 + lev (((B s).drop 2).take 2) by omega]
  refine guard_i ⟨by omega, by omega, by have := hL.nc; omega⟩ (guard_i ⟨by omega, by omega, by omega⟩ ?_)
  have hp4 := hL.part (l := 4) (k := 8) (by omega) (by omega)
  refine callW_of (octof_calls (c := c - Int.toNat 4) hp4 (by omega)) ?_
  rintro _ w9 ⟨rfl, he9⟩
  refine ⟨_, rfl, ?_⟩
  have hL := hL.ext he9
  have hb1 := hb1.ext he9
  have he9 := he8.trans he9
  refine heldB hL.sl ha (by omega) ?_
  have ed : s.extract (Int.toNat 12) (12 + lev (((B s).drop 2).take 2)) = ⟨(((B s).drop 12).take (lev (((B s).drop 2).take 2))).toArray⟩ := by
    apply B_inj
    rw [B_extract]
    show ((B s).drop 12).take _ = _
    rw [show Int.toNat 12 = 12 from rfl, Nat.add_sub_cancel_left, B_mk]
    rfl
  rw [ed]
  refine setA (f := frameB (B s)) hb1 rfl rfl ?_
  intro w10 hb1 hx10 _ _
  have he10 := hx10 w he9 hr1'
  refine callW_of (fput_calls w10 ((B s).length : Nat) (f := frameB (B s)) (frameB_gen _)) ?_
  rintro _ w11 ⟨rfl, he11⟩
  refine ⟨(⟨(putR (B s).length (frameB (B s))).1.toArray⟩, (putR (B s).length (frameB (B s))).2, ()), rfl, ?_⟩
  have hb1 := hb1.ext he11
  have he11 := he10.trans he11
  dsimp only
  have bad : putR (B s).length (frameB (B s)) ≠ (B s, 0) → ∀ {w' : World}, Blk w' r1 (fV (frameB (B s))) 87 → Ext w w' →
      (guardW ((#[(.int .u8 (0 : Int)), (.int .u64 (0 : Int)), (.string ByteArray.empty)] : Array Value).size = 3) <| stAW (⟨r1, 0, none⟩ : Addr) [(.int .u8 (0 : Int)), (.int .u64 (0 : Int)), (.string ByteArray.empty)] <| ldAW fLs (⟨r1, 0, none⟩ : Addr) fun (u : Int × Int × ByteArray × Unit) => fun w'' => Value.tuple #[(.agg #[(.int .u8 u.1), (.int .u64 u.2.1), (.string u.2.2.1)]), (.int .i64 4)] = .tuple #[.agg (fV (getR (B s)).1).toArray, .int .i64 (getR (B s)).2] ∧ Ext w w'') w' := fun hne2 {w'} hb he =>
    setA (f := fra0) hb rfl rfl fun w'' _ hx _ _ => ⟨by rw [getR_4' hne hok hfit hne2]; rfl, hx w he hr1'⟩
  refine splitW_i (fun hz => ?_) (fun hz => ?_)
  · have hz := bne_iff_ne.1 hz
    exact bad (fun e => hz (by rw [e])) hb1 he11
  have hz := bne_eq_false_iff_eq.1 hz
  refine splitW_i (fun hq => ?_) (fun hq => ?_)
  · refine bad (fun e => ?_) hb1 he11
    have : ((⟨(putR (B s).length (frameB (B s))).1.toArray⟩ : ByteArray).toList == s.toList) = false := by simpa using hq
    rw [str_beq, B_mk, e] at this
    simp at this
  · have : ((⟨(putR (B s).length (frameB (B s))).1.toArray⟩ : ByteArray).toList == s.toList) = true := by simpa using hq
    rw [str_beq, B_mk] at this
    have hps := of_decide_eq_true this
    exact done he11 hb1 (getR_0 hne hok hfit (Prod.ext hps hz))
theorem fkind_calls (w : World) (s : ByteArray) (hs : s.size ≤ 9223372036854775807) (tag : UInt8) : Calls Tryz.prog 36 #[.string s, .int .u8 (tag.toNat : Int)] w (Ret fun v w' => v = .tuple #[.agg (fV (kindR (B s) tag).1).toArray, .int .i64 (kindR (B s) tag).2] ∧ Ext w w') := by
  apply calls36
  unfold S36
  refine new_i fun r1 w1 hb1 he1 hr1 _ => ?_
  have hb1 : Blk w1 r1 (fV fra0) 87 := hb1
  refine callW_of (fget_calls w1 s hs) ?_
  rintro _ w2 ⟨rfl, he2⟩
  refine ⟨(fT (getR (B s)).1, (getR (B s)).2, ()), rfl, ?_⟩
  have hb1 := hb1.ext he2
  have he2 := he1.trans he2
  refine boxed (f := (getR (B s)).1) ?_
  intro r3 w3 hb3 he3 hr3
  have hb1 := hb1.ext he3
  have he3 := he2.trans he3
  have h13 : r1 ≠ r3 := by have := hb1.lt; have := he2.size; have : r1 < w2.heap.size := by have h := he1.size; have := (by assumption : Ext w1 w2).size; omega
                           omega
  dsimp only
  have copy : ∀ {w' : World} {e : Int}, Ext w w' → Blk w' r1 (fV fra0) 87 → Blk w' r3 (fV (getR (B s)).1) 87 → kindR (B s) tag = ((getR (B s)).1, e) →
      (ldAW fLs (⟨r3, 0, none⟩ : Addr) fun (u : Int × Int × ByteArray × Unit) => guardW ((#[(.int .u8 u.1), (.int .u64 u.2.1), (.string u.2.2.1)] : Array Value).size = 3) <| stAW (⟨r1, 0, none⟩ : Addr) [(.int .u8 u.1), (.int .u64 u.2.1), (.string u.2.2.1)] <| ldAW fLs (⟨r1, 0, none⟩ : Addr) fun (u : Int × Int × ByteArray × Unit) => fun w'' => Value.tuple #[(.agg #[(.int .u8 u.1), (.int .u64 u.2.1), (.string u.2.2.1)]), (.int .i64 e)] = .tuple #[.agg (fV (kindR (B s) tag).1).toArray, .int .i64 (kindR (B s) tag).2] ∧ Ext w w'') w' := fun {w' e} he hb hb3 hk =>
    boxA (ls := fLs) (fT (getR (B s)).1) hb3 rfl (setA (f := (getR (B s)).1) hb rfl rfl fun w'' _ hx _ _ => ⟨by rw [hk]; rfl, hx w he (by omega)⟩)
  refine splitW_i (fun hz => ?_) (fun hz => ?_)
  · have hz := beq_iff_eq.1 hz
    refine box0 ((getR (B s)).1.1.toNat : Int) hb3 (by rfl) ?_
    refine splitW_i (fun ht => ?_) (fun ht => ?_)
    · have ht := bne_iff_ne.1 ht
      have hk : kindR (B s) tag = (fra0, 11) := by unfold kindR; rw [if_pos ⟨hz, fun e => ht (by rw [e])⟩]
      exact setA (f := fra0) hb1 rfl rfl fun w'' _ hx _ _ => ⟨by rw [hk]; rfl, hx w he3 (by omega)⟩
    · have ht := bne_eq_false_iff_eq.1 ht
      have hk : kindR (B s) tag = ((getR (B s)).1, (getR (B s)).2) := by
        unfold kindR
        rw [if_neg]
        rintro ⟨_, h⟩
        exact h (UInt8.toNat_inj.1 (by omega))
      exact copy he3 hb1 hb3 hk
  · have hz := beq_eq_false_iff_ne.1 hz
    have hk : kindR (B s) tag = ((getR (B s)).1, (getR (B s)).2) := by
      unfold kindR
      rw [if_neg (fun h => hz h.1)]
    exact copy he3 hb1 hb3 hk
theorem rfput_calls (w : World) (size : Int) {f : Fra} (hg : f.2.1 < 18446744073709551616) : Calls Tryz.prog 112 #[.int .i64 size, .agg (fV f).toArray] w (Ret fun v w' => v = .tuple #[.string ⟨(putR size f).1.toArray⟩, .int .i64 (putR size f).2] ∧ Ext w w') := by
  apply calls112
  unfold S112 putR
  refine new_i fun r1 w1 hb1 he1 hr1 _ => ?_
  refine callW_of (refroom_calls w1 size) ?_
  rintro _ w2 ⟨rfl, he2⟩
  refine ⟨_, rfl, ?_⟩
  have hb1 := hb1.ext he2
  have he2 := he1.trans he2
  have hds := B_size f.2.2
  rcases roomOf_cases size with h0 | ⟨h0, h1, h2, hgeo⟩
  · rw [h0, if_pos rfl]
    exact splitW_t (by rfl) ⟨rfl, he2⟩
  rw [if_neg (by omega)]
  refine splitW_f (by rw [beq_eq_false_iff_ne]; omega) ?_
  refine draw_i fun w3 he3 _ _ => ?_
  have hb1 := hb1.ext he3
  have he3 := he2.trans he3
  refine boxF 2 f.2.2 hb1 (by rfl) ?_
  refine callW_of (refroom_calls w3 size) ?_
  rintro _ w4 ⟨rfl, he4⟩
  refine ⟨_, rfl, ?_⟩
  have hb1 := hb1.ext he4
  have he4 := he3.trans he4
  refine ⟨fun l hl p hp => ?_, ?_⟩
  · simp only [List.mem_singleton] at hl
    subst hl
    simp only [List.mem_singleton] at hp
    subst hp
    rw [add_mk, hb1.cell]
    rfl
  refine splitW_i (fun hlong => ?_) (fun hfit => ?_)
  · have hlong := of_decide_eq_true hlong
    rw [if_pos (by omega)]
    exact ⟨rfl, he4⟩
  have hfit := of_decide_eq_false hfit
  rw [if_neg (by omega)]
  obtain ⟨sz, rfl⟩ : ∃ sz : Nat, size = sz := ⟨size.toNat, by omega⟩
  rw [Int.toNat_natCast]
  refine box0 (f.1.toNat : Int) hb1 (by rfl) ?_
  apply newW_i
  have e0 : #[Value.int .u8 (f.1.toNat : Int), Value.int .u8 0] = (bV [f.1, 0]).toArray := rfl
  rw [e0]
  have ho : Own 5 (w4.alloc (.cells (bV [f.1, 0]).toArray 5)) w4.heap.size (some ⟨w4.heap.size, 0, none⟩) 2 2 (bV [f.1, 0]) := Own.lit (cs := (bV [f.1, 0]).toArray) (Nat.le_refl _) (by simp [bV])
  have he5 := (Ext.refl w4).alloc (.cells (bV [f.1, 0]).toArray 5)
  have hrlt := hb1.lt
  generalize hw5 : w4.alloc (.cells (bV [f.1, 0]).toArray 5) = w5 at ho he5 ⊢
  have hb1 := hb1.ext he5
  have he05 := he4.trans he5
  have hB5 := he5.size
  generalize hB : w4.heap.size = B0 at *
  have hB0 : w.heap.size ≤ B0 := by have := he4.size; omega
  have grow : ∀ {w' w'' : World} {A : Option Addr} {n c : Nat} {vs : List Value} {r' : Option Nat}, Ext w w' → Own 5 w' B0 A n c vs → Grew w' w'' (orow A) r' → Ext w w'' := fun he ho hg => he.grown hg.grown (fun j hj => Nat.le_trans hB0 (ho.row' j hj))
  have keep : ∀ {w' w'' : World} {A : Option Addr} {n c : Nat} {vs cs : List Value} {t : TypeId} {r' : Option Nat}, Blk w' r1 cs t → Own 5 w' B0 A n c vs → Grew w' w'' (orow A) r' → Blk w'' r1 cs t := fun hb ho hg => hb.grown hg.grown (fun e => by have := ho.row' r1 e.symm; omega)
  refine boxF 2 f.2.2 hb1 (by rfl) ?_
  rw [hds, wrap_u64_nat (by omega)]
  refine callW_of (put_calls (k := 2) ho hB5 (by omega) (by omega) (by omega) (by omega)) ?_
  rintro _ w6 ⟨⟨A6, n6, c6⟩, rfl, ho6, hg6⟩
  refine ⟨(A6, n6, c6), rfl, ?_⟩
  dsimp only at ho6 ⊢
  have he6 := grow he05 ho hg6
  have hb1 := keep hb1 ho hg6
  have hB6 := Nat.le_trans hB5 hg6.grown.size
  have l6 := ho6.sl.blen
  simp only [List.length_append, le_length, List.length_cons, List.length_nil] at l6
  refine boxF 1 (f.2.1 : Int) hb1 (by rfl) ?_
  refine callW_of (put_calls (k := 8) ho6 hB6 (by omega) hg (by omega) (by omega)) ?_
  rintro _ w7 ⟨⟨A7, n7, c7⟩, rfl, ho7, hg7⟩
  refine ⟨(A7, n7, c7), rfl, ?_⟩
  dsimp only at ho7 ⊢
  have he7 := grow he6 ho6 hg7
  have hb1 := keep hb1 ho6 hg7
  have hB7 := Nat.le_trans hB6 hg7.grown.size
  have eh : [f.1, 0] ++ le 2 (B f.2.2).length ++ le 8 f.2.1 = headB f := rfl
  rw [eh] at ho7
  have l7 := ho7.sl.blen
  rw [headB_length] at l7
  subst l7
  refine boxF 2 f.2.2 hb1 (by rfl) ?_
  refine append_str elem_u8 (by kernel_rfl) ho7 hB7 (by omega) ?_
  intro A8 c8 w8 ho8 hg8
  have he8 := grow he7 ho7 hg8
  have hB8 := Nat.le_trans hB7 hg8.grown.size
  dsimp only
  have e8 : IntKind.wrap .i64 (IntKind.wrap .i64 ((sz : Int) - 4) - ((12 + f.2.2.size : Nat) : Int)) = ((sz - 16 - (B f.2.2).length : Nat) : Int) := by
    rw [wrap_i64 (x := (sz : Int) - 4) (by omega) (by omega), wrap_i64 (by omega) (by omega)]
    omega
  rw [e8]
  refine append_zeros (kn := .i64) elem_u8 (by kernel_rfl) ho8 hB8 (by omega) (by omega) ?_
  intro A9 c9 w9 ho9 hg9
  have he9 := grow he8 ho8 hg9
  have hB9 := Nat.le_trans hB8 hg9.grown.size
  dsimp only
  have e9 : headB f ++ B f.2.2 ++ List.replicate (sz - 16 - (B f.2.2).length) 0 = bodyB sz f := rfl
  rw [e9] at ho9
  refine callW_of (rcrc_calls ho9.sl) ?_
  rintro _ w10 ⟨rfl, he10⟩
  refine ⟨_, rfl, ?_⟩
  have ho10 := ho9.ext he10
  have hB10 := Nat.le_trans hB9 he10.size
  have he10 := he9.trans he10
  have hclt := (crc (bodyB sz f)).isLt
  rw [wrap_u64_nat (by omega)]
  refine callW_of (put_calls (k := 4) ho10 hB10 (by omega) (by omega) (by omega) (by omega)) ?_
  rintro _ w11 ⟨⟨A11, n11, c11⟩, rfl, ho11, hg11⟩
  refine ⟨(A11, n11, c11), rfl, ?_⟩
  have he11 := grow he10 ho10 hg11
  refine conv_str (e := 5) (by kernel_rfl) (by kernel_rfl) (by kernel_rfl) ho11.sl ?_
  exact ⟨rfl, he11⟩
theorem rfget_calls (w : World) (s : ByteArray) (hs : s.size ≤ 9223372036854775807) : Calls Tryz.prog 109 #[.string s] w (Ret fun v w' => v = .tuple #[.agg (fV (getR (B s)).1).toArray, .int .i64 (getR (B s)).2] ∧ Ext w w') := by
  apply calls109
  unfold S109
  have hsz := B_size s
  refine new_i fun r1 w1 hb1 he1 hr1 _ => ?_
  have hb1 : Blk w1 r1 (fV fra0) 87 := hb1
  refine callW_of (refroom_calls w1 (s.size : Nat)) ?_
  rintro _ w2 ⟨rfl, he2⟩
  refine ⟨_, rfl, ?_⟩
  have hb1 := hb1.ext he2
  have hr12 : r1 < w2.heap.size := hb1.lt
  have he2 := he1.trans he2
  have hr1' : w.heap.size ≤ r1 := by omega
  have done : ∀ {w' : World} {g : Fra} {e : Int}, Ext w w' → Blk w' r1 (fV g) 87 → getR (B s) = (fra0, e) →
      (guardW ((#[(.int .u8 (0 : Int)), (.int .u64 (0 : Int)), (.string ByteArray.empty)] : Array Value).size = 3) <| stAW (⟨r1, 0, none⟩ : Addr) [(.int .u8 (0 : Int)), (.int .u64 (0 : Int)), (.string ByteArray.empty)] <| ldAW fLs (⟨r1, 0, none⟩ : Addr) fun (u : Int × Int × ByteArray × Unit) => fun w'' => Value.tuple #[(.agg #[(.int .u8 u.1), (.int .u64 u.2.1), (.string u.2.2.1)]), (.int .i64 e)] = .tuple #[.agg (fV (getR (B s)).1).toArray, .int .i64 (getR (B s)).2] ∧ Ext w w'') w' := fun {w' g e} he hb hg =>
    setA (f := fra0) hb rfl rfl fun w'' _ hx _ _ => ⟨by rw [hg]; rfl, hx w he hr1'⟩
  rw [hsz] at hs ⊢
  rcases roomOf_cases (B s).length with h0 | ⟨h0, h1, h2, hgeo⟩
  · rw [h0]
    exact splitW_t (by rfl) (done he2 hb1 (getR_2 h0))
  refine splitW_f (by rw [beq_eq_false_iff_ne]; omega) ?_
  have hne : roomOf (B s).length ≠ 0 := by omega
  refine conv_bytes (u := .string) (e := 5) (by kernel_rfl) (by kernel_rfl) (by kernel_rfl) (by omega) ?_
  intro c w3 hsl he3 hs3 hc
  have hL : Looks w3 (some ⟨w2.heap.size, 0, none⟩) s.size c (B s) := ⟨hsl, hc, by omega⟩
  rw [hsz] at hL
  have hb1 := hb1.ext he3
  have he3 := he2.trans he3
  refine draw_i fun w4 he4 _ _ => ?_
  have hL := hL.ext he4
  have hb1 := hb1.ext he4
  have he4 := he3.trans he4
  dsimp only
  rw [hsz]
  generalize hA : (some (⟨w2.heap.size, 0, none⟩ : Addr)) = A at hL ⊢
  rw [wrap_i64 (x := ((B s).length : Int) - 4) (by omega) (by omega), show Int.toNat (((B s).length : Int) - 4) = (B s).length - 4 by omega]
  refine guard_i ⟨by omega, by omega⟩ (guard_i ⟨by omega, by omega⟩ ?_)
  refine callW_of (rcrc_calls hL.body) ?_
  rintro _ w5 ⟨rfl, he5⟩
  refine ⟨_, rfl, ?_⟩
  have hL := hL.ext he5
  have hb1 := hb1.ext he5
  have he5 := he4.trans he5
  refine callW_of (refof_calls hL.tail (by omega)) ?_
  rintro _ w5 ⟨rfl, hw⟩
  subst hw
  refine ⟨_, rfl, ?_⟩
  have hclt := (crc ((B s).take ((B s).length - 4))).isLt
  rw [wrap_u64_nat (by omega)]
  refine splitW_i (fun hbad => ?_) (fun hok => ?_)
  · have hbad := bne_iff_ne.1 hbad
    exact done he5 hb1 (getR_10 hne (fun e => hbad (by rw [e])))
  have hok : (crc ((B s).take ((B s).length - 4))).toNat = lev ((B s).drop ((B s).length - 4)) := by have := bne_eq_false_iff_eq.1 hok; omega
  refine guard_i ⟨by omega, by omega, by omega⟩ ?_
  have hp2 := hL.part (l := 2) (k := 2) (by omega) (by omega)
  refine callW_of (refof_calls (c := c - Int.toNat 2) hp2 (by omega)) ?_
  rintro _ w5 ⟨rfl, hw⟩
  subst hw
  refine ⟨_, rfl, ?_⟩
  refine callW_of (refroom_calls w5 ((B s).length : Nat)) ?_
  rintro _ w7 ⟨rfl, he7⟩
  refine ⟨_, rfl, ?_⟩
  have hL := hL.ext he7
  have hb1 := hb1.ext he7
  have he7 := he5.trans he7
  have hk := lev_lt4 (bs := ((B s).drop 2).take 2) (by simp; omega)
  rw [wrap_i64 (x := (lev (((B s).drop 2).take 2) : Int)) (by omega) (by omega)]
  refine splitW_i (fun hbig => ?_) (fun hfit => ?_)
  · exact done he7 hb1 (getR_4 hne hok (of_decide_eq_true hbig))
  have hfit := of_decide_eq_false hfit
  refine draw_i fun w8 he8 _ _ => ?_
  have hL := hL.ext he8
  have hb1 := hb1.ext he8
  have he8 := he7.trans he8
  refine guard_i ⟨by omega, by omega⟩ ?_
  obtain ⟨a, ha, hcell⟩ := hL.sl.2.2 (by omega)
  refine ⟨a, ha, ?_⟩
  have h00 : w8.cell? (a.add (Int.toNat (0 : Int) * 1)) = some (.int .u8 (((B s).getD 0 0).toNat : Int)) := hcell 0 _ (by simp [bV, show 0 < (B s).length by omega])
  refine ld_i (l := .int .u8) (x := (((B s).getD 0 0).toNat : Int)) h00 ?_
  rw [wrap_i64 (x := (12 : Int) + _) (by omega) (by omega), show Int.toNat ((12 : Int) + (lev (((B s).drop 2).take 2) : Int)) = 12 + lev (((B s).drop 2).take 2) by omega]
  refine guard_i ⟨by omega, by omega, by have := hL.nc; omega⟩ (guard_i ⟨by omega, by omega, by omega⟩ ?_)
  have ed : s.extract (Int.toNat 12) (12 + lev (((B s).drop 2).take 2)) = ⟨(((B s).drop 12).take (lev (((B s).drop 2).take 2))).toArray⟩ := by
    apply B_inj
    rw [B_extract]
    show ((B s).drop 12).take _ = _
    rw [show Int.toNat 12 = 12 from rfl, Nat.add_sub_cancel_left, B_mk]
    rfl
  rw [ed]
  have tail : ∀ {w9 : World} {r14 : Nat} {cs : List Value}, Ext w w9 → Blk w9 r1 (fV fra0) 87 → Blk w9 r14 cs 87 → cs.length = 3 → w.heap.size ≤ r14 → r14 ≠ r1 →
      (guardW ((#[(.int .u8 (((B s).getD 0 0).toNat : Int)), (.int .u64 (lev (((B s).drop 4).take 8) : Int)), (.string ⟨(((B s).drop 12).take (lev (((B s).drop 2).take 2))).toArray⟩)] : Array Value).size = 3) <|
      stAW (⟨r14, 0, none⟩ : Addr) [(.int .u8 (((B s).getD 0 0).toNat : Int)), (.int .u64 (lev (((B s).drop 4).take 8) : Int)), (.string ⟨(((B s).drop 12).take (lev (((B s).drop 2).take 2))).toArray⟩)] <|
      ldAW fLs (⟨r14, 0, none⟩ : Addr) fun (u15 : (Int × Int × ByteArray × Unit)) =>
      callW Tryz.prog 112 [(.int .i64 (((B s).length : Nat) : Int)), (.agg #[(.int .u8 u15.1), (.int .u64 u15.2.1), (.string u15.2.2.1)])] (.many [(.one .str), (.one (.int .i64))]) fun (u16 : ByteArray × Int × Unit) =>
      splitW (u16.2.1 != (0 : Int)) (guardW ((#[(.int .u8 (0 : Int)), (.int .u64 (0 : Int)), (.string ByteArray.empty)] : Array Value).size = 3) <|
      stAW (⟨r1, 0, none⟩ : Addr) [(.int .u8 (0 : Int)), (.int .u64 (0 : Int)), (.string ByteArray.empty)] <|
      ldAW fLs (⟨r1, 0, none⟩ : Addr) fun (u17 : (Int × Int × ByteArray × Unit)) => fun w'' => Value.tuple #[(.agg #[(.int .u8 u17.1), (.int .u64 u17.2.1), (.string u17.2.2.1)]), (.int .i64 (4 : Int))] = .tuple #[.agg (fV (getR (B s)).1).toArray, .int .i64 (getR (B s)).2] ∧ Ext w w'') <|
      splitW (!(u16.1.toList == s.toList)) (guardW ((#[(.int .u8 (0 : Int)), (.int .u64 (0 : Int)), (.string ByteArray.empty)] : Array Value).size = 3) <|
      stAW (⟨r1, 0, none⟩ : Addr) [(.int .u8 (0 : Int)), (.int .u64 (0 : Int)), (.string ByteArray.empty)] <|
      ldAW fLs (⟨r1, 0, none⟩ : Addr) fun (u18 : (Int × Int × ByteArray × Unit)) => fun w'' => Value.tuple #[(.agg #[(.int .u8 u18.1), (.int .u64 u18.2.1), (.string u18.2.2.1)]), (.int .i64 (4 : Int))] = .tuple #[.agg (fV (getR (B s)).1).toArray, .int .i64 (getR (B s)).2] ∧ Ext w w'') <|
      ldAW fLs (⟨r14, 0, none⟩ : Addr) fun (u19 : (Int × Int × ByteArray × Unit)) =>
      guardW ((#[(.int .u8 u19.1), (.int .u64 u19.2.1), (.string u19.2.2.1)] : Array Value).size = 3) <|
      stAW (⟨r1, 0, none⟩ : Addr) [(.int .u8 u19.1), (.int .u64 u19.2.1), (.string u19.2.2.1)] <|
      ldAW fLs (⟨r1, 0, none⟩ : Addr) fun (u20 : (Int × Int × ByteArray × Unit)) => fun w'' => Value.tuple #[(.agg #[(.int .u8 u20.1), (.int .u64 u20.2.1), (.string u20.2.2.1)]), (.int .i64 (0 : Int))] = .tuple #[.agg (fV (getR (B s)).1).toArray, .int .i64 (getR (B s)).2] ∧ Ext w w'') w9 := by
    intro w9 r14 cs he hb1 hb14 hcs hr14 hr14ne
    refine setA (f := frameB (B s)) hb14 hcs rfl ?_
    intro w10 hb14 hx10 hk10 hz10
    have he10 := hx10 w he hr14
    have hb1 : Blk w10 r1 (fV fra0) 87 := (hk10 r1 (fun e => hr14ne e.symm)).trans hb1
    refine callW_of (rfput_calls w10 ((B s).length : Nat) (f := frameB (B s)) (frameB_gen _)) ?_
    rintro _ w11 ⟨rfl, he11⟩
    refine ⟨(⟨(putR (B s).length (frameB (B s))).1.toArray⟩, (putR (B s).length (frameB (B s))).2, ()), rfl, ?_⟩
    have hb1 := hb1.ext he11
    have hb14 := hb14.ext he11
    have he11 := he10.trans he11
    dsimp only
    refine splitW_i (fun hz => ?_) (fun hz => ?_)
    · have hz := bne_iff_ne.1 hz
      exact done he11 hb1 (getR_4' hne hok hfit (fun e => hz (by rw [e])))
    have hz := bne_eq_false_iff_eq.1 hz
    refine splitW_i (fun hq => ?_) (fun hq => ?_)
    · refine done he11 hb1 (getR_4' hne hok hfit (fun e => ?_))
      have : ((⟨(putR (B s).length (frameB (B s))).1.toArray⟩ : ByteArray).toList == s.toList) = false := by simpa using hq
      rw [str_beq, B_mk, e] at this
      simp at this
    · have : ((⟨(putR (B s).length (frameB (B s))).1.toArray⟩ : ByteArray).toList == s.toList) = true := by simpa using hq
      rw [str_beq, B_mk] at this
      have hps := of_decide_eq_true this
      refine boxA (ls := fLs) (fT (frameB (B s))) hb14 rfl (setA (f := frameB (B s)) hb1 rfl rfl fun w'' _ hx _ _ => ⟨?_, hx w he11 hr1'⟩)
      rw [getR_0 hne hok hfit (Prod.ext hps hz)]
      rfl
  have hp4 := hL.part (l := 4) (k := 8) (by omega) (by omega)
  refine ⟨?_, ?_⟩
  · refine callW_of (refof_calls (c := c - Int.toNat 4) hp4 (by omega)) ?_
    rintro _ w8 ⟨rfl, hw⟩
    subst hw
    refine ⟨_, rfl, ?_⟩
    refine heldB hL.sl ha (by omega) ?_
    refine new_i fun r14 w9 hb14 he9 hr14 _ => ?_
    refine heldB (hL.ext he9).sl ha (by omega) ?_
    have := hb1.lt
    exact tail (he8.trans he9) (hb1.ext he9) hb14 rfl (by have := he8.size; omega) (by omega)
  · refine new_i fun r14 w9 hb14 he9 hr14 _ => ?_
    refine heldB (hL.ext he9).sl ha (by omega) ?_
    refine callW_of (refof_calls (c := c - Int.toNat 4) (hp4.ext he9) (by omega)) ?_
    rintro _ w9 ⟨rfl, hw⟩
    subst hw
    refine ⟨_, rfl, ?_⟩
    refine heldB (hL.ext he9).sl ha (by omega) ?_
    have := hb1.lt
    exact tail (he8.trans he9) (hb1.ext he9) hb14 rfl (by have := he8.size; omega) (by omega)
theorem rfkind_calls (w : World) (s : ByteArray) (hs : s.size ≤ 9223372036854775807) (tag : UInt8) : Calls Tryz.prog 87 #[.string s, .int .u8 (tag.toNat : Int)] w (Ret fun v w' => v = .tuple #[.agg (fV (kindR (B s) tag).1).toArray, .int .i64 (kindR (B s) tag).2] ∧ Ext w w') := by
  apply calls87
  unfold S87
  refine new_i fun r1 w1 hb1 he1 hr1 _ => ?_
  have hb1 : Blk w1 r1 (fV fra0) 87 := hb1
  refine callW_of (rfget_calls w1 s hs) ?_
  rintro _ w2 ⟨rfl, he2⟩
  refine ⟨(fT (getR (B s)).1, (getR (B s)).2, ()), rfl, ?_⟩
  have hb1 := hb1.ext he2
  have he2 := he1.trans he2
  refine boxed (f := (getR (B s)).1) ?_
  intro r3 w3 hb3 he3 hr3
  have hb1 := hb1.ext he3
  have he3 := he2.trans he3
  have h13 : r1 ≠ r3 := by have := hb1.lt; have := he2.size; have : r1 < w2.heap.size := by have h := he1.size; have := (by assumption : Ext w1 w2).size; omega
                           omega
  dsimp only
  have copy : ∀ {w' : World} {e : Int}, Ext w w' → Blk w' r1 (fV fra0) 87 → Blk w' r3 (fV (getR (B s)).1) 87 → kindR (B s) tag = ((getR (B s)).1, e) →
      (ldAW fLs (⟨r3, 0, none⟩ : Addr) fun (u : Int × Int × ByteArray × Unit) => guardW ((#[(.int .u8 u.1), (.int .u64 u.2.1), (.string u.2.2.1)] : Array Value).size = 3) <| stAW (⟨r1, 0, none⟩ : Addr) [(.int .u8 u.1), (.int .u64 u.2.1), (.string u.2.2.1)] <| ldAW fLs (⟨r1, 0, none⟩ : Addr) fun (u : Int × Int × ByteArray × Unit) => fun w'' => Value.tuple #[(.agg #[(.int .u8 u.1), (.int .u64 u.2.1), (.string u.2.2.1)]), (.int .i64 e)] = .tuple #[.agg (fV (kindR (B s) tag).1).toArray, .int .i64 (kindR (B s) tag).2] ∧ Ext w w'') w' := fun {w' e} he hb hb3 hk =>
    boxA (ls := fLs) (fT (getR (B s)).1) hb3 rfl (setA (f := (getR (B s)).1) hb rfl rfl fun w'' _ hx _ _ => ⟨by rw [hk]; rfl, hx w he (by omega)⟩)
  refine splitW_i (fun hz => ?_) (fun hz => ?_)
  · have hz := beq_iff_eq.1 hz
    refine box0 ((getR (B s)).1.1.toNat : Int) hb3 (by rfl) ?_
    refine splitW_i (fun ht => ?_) (fun ht => ?_)
    · have ht := bne_iff_ne.1 ht
      have hk : kindR (B s) tag = (fra0, 11) := by unfold kindR; rw [if_pos ⟨hz, fun e => ht (by rw [e])⟩]
      exact setA (f := fra0) hb1 rfl rfl fun w'' _ hx _ _ => ⟨by rw [hk]; rfl, hx w he3 (by omega)⟩
    · have ht := bne_eq_false_iff_eq.1 ht
      have hk : kindR (B s) tag = ((getR (B s)).1, (getR (B s)).2) := by
        unfold kindR
        rw [if_neg]
        rintro ⟨_, h⟩
        exact h (UInt8.toNat_inj.1 (by omega))
      exact copy he3 hb1 hb3 hk
  · have hz := beq_eq_false_iff_ne.1 hz
    have hk : kindR (B s) tag = ((getR (B s)).1, (getR (B s)).2) := by
      unfold kindR
      rw [if_neg (fun h => hz h.1)]
    exact copy he3 hb1 hb3 hk
end Go.Proofs.YtjdmggaeagnolaaGreatDoor.V
/- Supers: plain. -/
namespace Go.Proofs.YtjdmggaeagnolaaGreatDoor.V
open Go Go.Proofs Go.RowKit Crc
structure Sup where
  gen : Nat
  size : Int
  blocks : Int
  root : Nat
  pages : List Nat
deriving DecidableEq
def sup0 : Sup := ⟨0, 0, 0, 0, []⟩
structure Sup.Fits (s : Sup) : Prop where
  gen : s.gen < 18446744073709551616
  size : -9223372036854775808 ≤ s.size ∧ s.size < 9223372036854775808
  blocks : -9223372036854775808 ≤ s.blocks ∧ s.blocks < 9223372036854775808
  root : s.root < 4294967296
  pages : ∀ p ∈ s.pages, p < 4294967296
theorem sup0_fits : sup0.Fits := ⟨by decide, by decide, by decide, by decide, by simp [sup0]⟩
theorem geo_room {size blocks : Int} (h : geoOK size blocks = true) : roomOf size = size - 16 ∧ 128 ≤ size ∧ size ≤ 4096 ∧ 8 ≤ blocks ∧ blocks ≤ 4096 := by
  unfold geoOK at h
  have h := of_decide_eq_true h
  have h8 : geoOK size 8 = true := by unfold geoOK; exact decide_eq_true (by omega)
  unfold roomOf
  rw [h8]
  exact ⟨rfl, by omega, by omega, by omega, by omega⟩
def pagesOf (size blocks : Int) : Int := if geoOK size blocks = true then (2 * blocks + roomOf size - 1) / roomOf size else 0
theorem pagesOf_le {size blocks : Int} : 0 ≤ pagesOf size blocks ∧ pagesOf size blocks ≤ 20000 := by
  unfold pagesOf
  split
  · rename_i h
    obtain ⟨h0, h1, h2, h3, h4⟩ := geo_room h
    rw [h0]
    have := Int.ediv_le_self (a := 2 * blocks + (size - 16) - 1) (size - 16) (by omega)
    have := Int.ediv_nonneg (a := 2 * blocks + (size - 16) - 1) (b := size - 16) (by omega) (by omega)
    omega
  · omega
def pageOK (blocks : Int) (n : Nat) : Bool := decide (2 ≤ n ∧ (n : Int) < blocks)
def Sup.good (s : Sup) (j : Nat) : Prop := pageOK s.blocks (s.pages.getD j 0) = true ∧ s.pages.getD j 0 ≠ s.root ∧ s.pages.getD j 0 ∉ s.pages.take j
instance (s : Sup) (j : Nat) : Decidable (s.good j) := by unfold Sup.good; infer_instance
def Sup.head (s : Sup) : Prop := geoOK s.size s.blocks = true ∧ s.gen ≠ 0 ∧ (s.root = 0 ∨ pageOK s.blocks s.root = true) ∧ (s.pages.length : Int) = pagesOf s.size s.blocks
instance (s : Sup) : Decidable s.head := by unfold Sup.head; infer_instance
def chk (s : Sup) : Int := if s.head then (if ∀ j, j < s.pages.length → s.good j then (if 14 + 4 * (s.pages.length : Int) > roomOf s.size then 3 else 0) else 2) else 2
theorem chk_head {s : Sup} (h : ¬ s.head) : chk s = 2 := by unfold chk; rw [if_neg h]
theorem chk_bad {s : Sup} {j : Nat} (hj : j < s.pages.length) (h : ¬ s.good j) : chk s = 2 := by
  unfold chk
  split
  · rw [if_neg (fun hh => h (hh j hj))]
  · rfl
theorem chk_long {s : Sup} (h : s.head) (hg : ∀ j, j < s.pages.length → s.good j) : chk s = if 14 + 4 * (s.pages.length : Int) > roomOf s.size then 3 else 0 := by
  unfold chk
  rw [if_pos h, if_pos hg]
theorem chk_ok {s : Sup} (h : chk s = 0) : s.head ∧ (∀ j, j < s.pages.length → s.good j) ∧ 14 + 4 * (s.pages.length : Int) ≤ roomOf s.size := by
  unfold chk at h
  split at h
  · rename_i h1
    split at h
    · rename_i h2
      split at h
      · cases h
      · exact ⟨h1, h2, by omega⟩
    · cases h
  · cases h
def wordsB (ps : List Nat) : List UInt8 := ps.flatMap (le 4)
theorem wordsB_length (ps : List Nat) : (wordsB ps).length = 4 * ps.length := by
  induction ps with
  | nil => rfl
  | cons p r ih => simp only [wordsB, List.flatMap_cons, List.length_append, le_length, List.length_cons] at ih ⊢; omega
def headS (s : Sup) : List UInt8 := le 4 s.size.toNat ++ le 4 s.blocks.toNat ++ le 4 s.root ++ le 2 s.pages.length
def dataS (s : Sup) : List UInt8 := headS s ++ wordsB s.pages
theorem headS_length (s : Sup) : (headS s).length = 14 := by simp [headS, le_length]
theorem dataS_length (s : Sup) : (dataS s).length = 14 + 4 * s.pages.length := by rw [dataS, List.length_append, headS_length, wordsB_length]
def fraS (s : Sup) : Fra := (1, s.gen, ⟨(dataS s).toArray⟩)
def putS (s : Sup) : List UInt8 × Int := if chk s = 0 then putR s.size (fraS s) else ([], chk s)
theorem putS_bad {s : Sup} (h : chk s ≠ 0) : putS s = ([], chk s) := if_neg h
theorem putS_good {s : Sup} (h : chk s = 0) : putS s = (putB s.size.toNat (fraS s), 0) := by
  obtain ⟨h1, h2, h3⟩ := chk_ok h
  obtain ⟨g0, g1, g2, g3, g4⟩ := geo_room h1.1
  unfold putS putR
  have hl : ((B (fraS s).2.2).length : Int) = 14 + 4 * s.pages.length := by
    show ((B ⟨(dataS s).toArray⟩).length : Int) = _
    rw [B_mk, dataS_length]
    omega
  rw [if_pos h, if_neg (by omega), if_neg (by omega)]
theorem putS_ok {s : Sup} (h : (putS s).2 = 0) : chk s = 0 := by
  by_cases h1 : chk s = 0
  · exact h1
  · rw [putS_bad h1] at h
    exact h
theorem fraS_data (s : Sup) : B (fraS s).2.2 = dataS s := B_mk _
theorem putS_length {s : Sup} (h : chk s = 0) : ((putS s).1.length : Int) = s.size ∧ 128 ≤ s.size ∧ s.size ≤ 4096 := by
  rw [putS_good h]
  obtain ⟨h1, h2, h3⟩ := chk_ok h
  obtain ⟨g0, g1, g2, g3, g4⟩ := geo_room h1.1
  have := putB_length (size := s.size.toNat) (f := fraS s) (by rw [fraS_data, dataS_length]; omega)
  dsimp only
  omega
theorem putS_kind {s : Sup} (h : chk s = 0) (hg : s.gen < 18446744073709551616) : kindR (putS s).1 1 = (fraS s, 0) := by
  rw [putS_good h]
  obtain ⟨h1, h2, h3⟩ := chk_ok h
  obtain ⟨g0, g1, g2, g3, g4⟩ := geo_room h1.1
  have hget := getR_putB (size := s.size.toNat) (f := fraS s) (by rw [Int.toNat_of_nonneg (by omega)]; exact g0) (by omega) (by omega) (by rw [fraS_data, dataS_length]; omega) hg
  unfold kindR
  rw [hget, if_neg (by rintro ⟨_, h⟩; exact h rfl)]
def wordsOf (n : Nat) (bs : List UInt8) : List Nat := (List.range n).map fun i => lev ((bs.drop (4 * i)).take 4)
theorem wordsOf_length (n : Nat) (bs : List UInt8) : (wordsOf n bs).length = n := by simp [wordsOf]
theorem wordsOf_succ (n : Nat) (bs : List UInt8) : wordsOf (n + 1) bs = wordsOf n bs ++ [lev ((bs.drop (4 * n)).take 4)] := by simp [wordsOf, List.range_succ]
theorem wordsOf_lt (n : Nat) (bs : List UInt8) : ∀ p ∈ wordsOf n bs, p < 4294967296 := by
  intro p hp
  simp only [wordsOf, List.mem_map] at hp
  obtain ⟨i, _, rfl⟩ := hp
  exact lev_lt4 (by rw [List.length_take]; omega)
theorem lev4 {n : Nat} (h : n < 4294967296) : lev (le 4 n) = n := by rw [lev_le]; omega
theorem wordsOf_wordsB : ∀ (ps : List Nat), (∀ p ∈ ps, p < 4294967296) → wordsOf ps.length (wordsB ps) = ps
  | [], _ => rfl
  | p :: r, h => by
    have ih := wordsOf_wordsB r (fun q hq => h q (List.mem_cons_of_mem _ hq))
    have e : wordsB (p :: r) = le 4 p ++ wordsB r := rfl
    unfold wordsOf at ih ⊢
    rw [List.length_cons, List.range_succ_eq_map, List.map_cons, List.map_map, e]
    congr 1
    · rw [Nat.mul_zero, List.drop_zero, List.take_left' (le_length 4 p)]
      exact lev4 (h p List.mem_cons_self)
def decS (f : Fra) : Sup := ⟨f.2.1, lev ((B f.2.2).take 4), lev (((B f.2.2).drop 4).take 4), lev (((B f.2.2).drop 8).take 4), wordsOf (((B f.2.2).length - 14) / 4) ((B f.2.2).drop 14)⟩
theorem dataS_parts (s : Sup) : (dataS s).take 4 = le 4 s.size.toNat ∧ ((dataS s).drop 4).take 4 = le 4 s.blocks.toNat ∧ ((dataS s).drop 8).take 4 = le 4 s.root ∧ ((dataS s).drop 12).take 2 = le 2 s.pages.length ∧ (dataS s).drop 14 = wordsB s.pages := by
  have e : dataS s = le 4 s.size.toNat ++ (le 4 s.blocks.toNat ++ (le 4 s.root ++ (le 2 s.pages.length ++ wordsB s.pages))) := by simp [dataS, headS]
  have d4 : (dataS s).drop 4 = le 4 s.blocks.toNat ++ (le 4 s.root ++ (le 2 s.pages.length ++ wordsB s.pages)) := by rw [e, List.drop_left' (le_length _ _)]
  have d8 : (dataS s).drop 8 = le 4 s.root ++ (le 2 s.pages.length ++ wordsB s.pages) := by rw [show 8 = 4 + 4 from rfl, ← List.drop_drop, d4, List.drop_left' (le_length _ _)]
  have d12 : (dataS s).drop 12 = le 2 s.pages.length ++ wordsB s.pages := by rw [show 12 = 8 + 4 from rfl, ← List.drop_drop, d8, List.drop_left' (le_length _ _)]
  have d14 : (dataS s).drop 14 = wordsB s.pages := by rw [show 14 = 12 + 2 from rfl, ← List.drop_drop, d12, List.drop_left' (le_length _ _)]
  refine ⟨by rw [e, List.take_left' (le_length _ _)], by rw [d4, List.take_left' (le_length _ _)], by rw [d8, List.take_left' (le_length _ _)], by rw [d12, List.take_left' (le_length _ _)], d14⟩
theorem decS_fra {s : Sup} (h : chk s = 0) (hf : s.Fits) : decS (fraS s) = s := by
  obtain ⟨h1, h2, h3⟩ := chk_ok h
  obtain ⟨g0, g1, g2, g3, g4⟩ := geo_room h1.1
  obtain ⟨p1, p2, p3, p4, p5⟩ := dataS_parts s
  unfold decS
  rw [fraS_data, p1, p2, p3, p5, dataS_length, lev4 (by omega), lev4 (by omega), lev4 hf.root, show (14 + 4 * s.pages.length - 14) / 4 = s.pages.length by omega, wordsOf_wordsB _ hf.pages]
  cases s
  simp only [fraS, Sup.mk.injEq, true_and, and_true]
  dsimp only at g1 g3
  omega
theorem decS_fits {f : Fra} (h : f.2.1 < 18446744073709551616) : (decS f).Fits := by
  have a : ∀ l : List UInt8, lev (l.take 4) < 4294967296 := fun l => lev_lt4 (by rw [List.length_take]; omega)
  have a1 := a (B f.2.2)
  have a2 := a ((B f.2.2).drop 4)
  exact ⟨h, by dsimp only [decS]; omega, by dsimp only [decS]; omega, a _, wordsOf_lt _ _⟩
def getS (bs : List UInt8) : Sup × Int :=
  if (kindR bs 1).2 ≠ 0 then (sup0, (kindR bs 1).2)
  else if (B (kindR bs 1).1.2.2).length < 14 then (sup0, 4)
  else if putS (decS (kindR bs 1).1) = (bs, 0) then (decS (kindR bs 1).1, 0) else (sup0, 4)
theorem getS_e {bs : List UInt8} (h : (kindR bs 1).2 ≠ 0) : getS bs = (sup0, (kindR bs 1).2) := if_pos h
theorem getS_4 {bs : List UInt8} (h : (kindR bs 1).2 = 0) (h1 : ∀ s : Sup, s.Fits → putS s = (bs, 0) → False) : getS bs = (sup0, 4) := by
  unfold getS
  rw [if_neg (by simpa using h)]
  split
  · rfl
  · have hg : (kindR bs 1).1.2.1 < 18446744073709551616 := by
      unfold kindR
      split
      · decide
      · exact getR_gen bs
    rw [if_neg (fun e => h1 _ (decS_fits hg) e)]
theorem getS_put {s : Sup} {bs : List UInt8} (hf : s.Fits) (h : putS s = (bs, 0)) : getS bs = (s, 0) := by
  have hc := putS_ok (s := s) (by rw [h])
  have hk := putS_kind hc hf.gen
  rw [h] at hk
  dsimp only at hk
  have hl := dataS_length s
  unfold getS
  rw [hk, if_neg (by simp), fraS_data, if_neg (by omega), decS_fra hc hf, if_pos h]
theorem getS_uniq {s : Sup} {bs : List UInt8} (hf : s.Fits) (h : putS s = (bs, 0)) : (kindR bs 1).1 = fraS s := by
  have hc := putS_ok (s := s) (by rw [h])
  have hk := putS_kind hc hf.gen
  rw [h] at hk
  exact congrArg Prod.fst hk
theorem getS_ok {bs : List UInt8} (h : (getS bs).2 = 0) : putS (getS bs).1 = (bs, 0) ∧ (getS bs).1.Fits := by
  unfold getS at h ⊢
  split at h
  · rename_i h1; exact absurd h h1
  · rename_i h1
    rw [if_neg h1]
    split at h
    · cases h
    · rename_i h2
      rw [if_neg h2]
      split at h
      · rename_i h3
        rw [if_pos h3]
        refine ⟨h3, decS_fits ?_⟩
        unfold kindR
        split
        · decide
        · exact getR_gen bs
      · cases h
theorem getS_bad {bs : List UInt8} (h : (getS bs).2 ≠ 0) : (getS bs).1 = sup0 := by
  unfold getS at h ⊢
  split
  · rfl
  · rename_i h1
    rw [if_neg h1] at h
    split
    · rfl
    · rename_i h2
      rw [if_neg h2] at h
      split
      · rename_i h3; rw [if_pos h3] at h; exact absurd rfl h
      · rfl
theorem getS_fits (bs : List UInt8) : (getS bs).1.Fits := by
  by_cases h : (getS bs).2 = 0
  · exact (getS_ok h).2
  · rw [getS_bad h]; exact sup0_fits
def chooseS (a b : List UInt8) : Int × Sup × Int :=
  if (getS a).2 ≠ 0 ∧ (getS b).2 ≠ 0 then (-1, sup0, 10)
  else if (getS a).2 ≠ 0 ∨ ((getS b).2 = 0 ∧ (getS b).1.gen > (getS a).1.gen) then (1, (getS b).1, 0)
  else (0, (getS a).1, 0)
def other (slot : Int) : Int := if slot = 0 then 1 else 0
end Go.Proofs.YtjdmggaeagnolaaGreatDoor.V
/- Spaces: plain. -/
namespace Go.Proofs.YtjdmggaeagnolaaGreatDoor.V
open Go Go.Proofs Go.RowKit Crc
abbrev Page := UInt8 × List Nat × ByteArray
def page0 : Page := (0, [], ByteArray.empty)
def pgB (p : Page) : List UInt8 := le 2 p.2.1.length ++ (wordsB p.2.1 ++ B p.2.2)
def kidsOf (d : List UInt8) : List Nat := wordsOf (lev (d.take 2)) (d.drop 2)
def pageOKd (N : Nat) (d : List UInt8) : Prop := 2 ≤ d.length ∧ 2 + 4 * lev (d.take 2) ≤ d.length ∧ ∀ n ∈ kidsOf d, 2 ≤ n ∧ n < N
instance (N : Nat) (d : List UInt8) : Decidable (pageOKd N d) := by unfold pageOKd; infer_instance
def pageR (N : Nat) (bs : List UInt8) : Page × Int :=
  if (getR bs).2 = 0 ∧ 3 ≤ (getR bs).1.1.toNat ∧ pageOKd N (B (getR bs).1.2.2) then
    (((getR bs).1.1, kidsOf (B (getR bs).1.2.2), mkB ((B (getR bs).1.2.2).drop (2 + 4 * lev ((B (getR bs).1.2.2).take 2)))), 0) else (page0, 10)
theorem pageR_putB {N size gen : Nat} {p : Page} (hr : roomOf size = (size : Int) - 16) (h1 : 128 ≤ size) (h2 : size ≤ 4096) (hd : (pgB p).length + 16 ≤ size) (hg : gen < 18446744073709551616)
    (ht : 3 ≤ p.1.toNat) (hk : ∀ n ∈ p.2.1, 2 ≤ n ∧ n < N) (hN : N ≤ 4096) : pageR N (putB size (p.1, gen, mkB (pgB p))) = (p, 0) := by
  have e1 : getR (putB size (p.1, gen, mkB (pgB p))) = ((p.1, gen, mkB (pgB p)), 0) := getR_putB hr h1 h2 (by rw [show B (p.1, gen, mkB (pgB p)).2.2 = pgB p from B_mk _]; exact hd) hg
  unfold pageR
  rw [e1]
  dsimp only
  rw [show B (mkB (pgB p)) = pgB p from B_mk _]
  have hl : (pgB p).length = 2 + (4 * p.2.1.length + (B p.2.2).length) := by simp [pgB, le_length, wordsB_length]
  have hkl : p.2.1.length < 65536 := by omega
  have e2 : (pgB p).take 2 = le 2 p.2.1.length := by rw [pgB, List.take_left' (le_length _ _)]
  have e3 : (pgB p).drop 2 = wordsB p.2.1 ++ B p.2.2 := by rw [pgB, List.drop_left' (le_length _ _)]
  have e4 : lev ((pgB p).take 2) = p.2.1.length := by rw [e2, lev_le2 hkl]
  have e5 : kidsOf (pgB p) = p.2.1 := by
    unfold kidsOf
    rw [e4, e3]
    have hw := wordsOf_wordsB p.2.1 (fun n hn => by have := hk n hn; omega)
    have hcut : ∀ (n : Nat) (a b : List UInt8), 4 * n ≤ a.length → wordsOf n (a ++ b) = wordsOf n a := by
      intro n a b hn
      unfold wordsOf
      apply List.map_congr_left
      intro i hi
      have := List.mem_range.1 hi
      rw [List.drop_append_of_le_length (by omega), List.take_append_of_le_length (by rw [List.length_drop]; omega)]
    rw [hcut _ _ _ (by rw [wordsB_length]; omega)]
    exact hw
  have e6 : (pgB p).drop (2 + 4 * p.2.1.length) = B p.2.2 := by
    rw [← List.drop_drop, e3, List.drop_left' (wordsB_length _)]
  rw [e4, e5, e6, if_pos ⟨rfl, ht, by rw [hl]; omega, by rw [e4, hl]; omega, by rw [e5]; exact hk⟩]
  rfl
structure Spa where
  dev : Dev
  sup : Sup
  slot : Int
  held : List Nat
  now : List Nat
  mark : Option (List Nat)
def cnt : Option (List Nat) → Nat → Nat
  | none, _ => 0
  | some l, n => l.getD n 0
namespace Spa
def N (S : Spa) : Nat := S.sup.blocks.toNat
def isFree (S : Spa) (n : Nat) : Bool := S.now.getD n 0 == 0 && S.held.getD n 0 == 0 && cnt S.mark n == 0
def freeL (S : Spa) : List Nat := (List.range S.N).filter fun n => decide (2 ≤ n) && S.isFree n
def freeN (S : Spa) : Nat := S.freeL.length
def asked (S : Spa) (n : Nat) : Bool := decide (2 ≤ n) && (decide (n < S.N) && !(decide (n ∈ S.sup.pages)))
def room (S : Spa) (k : Int) : Int := if k < 0 ∨ k > (roomOf S.sup.size - 2) / 4 then 0 else roomOf S.sup.size - 2 - 4 * k
def takeI (S : Spa) : Nat := (List.range S.now.length).findIdx S.isFree
def takeN (S : Spa) : Nat := if S.takeI < S.now.length then S.takeI else 0
def takeE (S : Spa) : Int := if S.takeI < S.now.length then 0 else 9
def takeL (S : Spa) : List Nat := if S.takeI < S.now.length then S.now.set S.takeI 1 else S.now
def page (S : Spa) (n : Nat) : Page × Int := pageR S.N (B (S.dev.read n).1)
def get (S : Spa) (n : Nat) : Page × Int := if S.asked n = false then (page0, 2) else if S.now.getD n 0 = 0 then (page0, 8) else S.page n
end Spa
def writeF (d : Dev) (k : Int) (f : Fra) : Dev × Int := if (putR d.size f).2 ≠ 0 then (d, (putR d.size f).2) else d.write k (mkB (putR d.size f).1)
namespace Spa
def putE (S : Spa) (p : Page) : Int :=
  if p.1.toNat < 3 ∨ p.2.1.length > 65535 ∨ (∃ k ∈ p.2.1, S.asked k = false) then 2
  else if ∃ k ∈ p.2.1, S.now.getD k 0 = 0 then 8
  else if (p.2.1.length : Int) > S.room 0 / 4 ∨ (p.2.2.size : Int) > S.room p.2.1.length then 3
  else if S.freeN ≤ S.sup.pages.length then 9
  else 0
def frame (S : Spa) (p : Page) : Fra := (p.1, S.sup.gen + 1, mkB (pgB p))
def put (S : Spa) (p : Page) : Spa × Nat × Int :=
  if S.putE p ≠ 0 then (S, 0, S.putE p)
  else if S.takeE ≠ 0 then (S, 0, S.takeE)
  else if (writeF S.dev S.takeN (S.frame p)).2 ≠ 0 then ({ S with now := S.takeL, dev := (writeF S.dev S.takeN (S.frame p)).1 }, 0, (writeF S.dev S.takeN (S.frame p)).2)
  else ({ S with now := S.takeL, dev := (writeF S.dev S.takeN (S.frame p)).1 }, S.takeN, 0)
end Spa
end Go.Proofs.YtjdmggaeagnolaaGreatDoor.V
/- Contracts of the package counts. -/
namespace Go.Proofs.YtjdmggaeagnolaaGreatDoor.V
open Go Go.Proofs Go.RowKit
def uV (k : IntKind) (l : List Nat) : List Value := l.map fun (n : Nat) => Value.int k ((n : Nat) : Int)
structure Cnt (w : World) (b r : Nat) (size : Int) (q : List Value) (l : List Nat) : Prop where
  head : Blk w b [.int .i64 size, .int .i64 (l.length : Int), .slice (some ⟨r, 0, none⟩) l.length (l.length + q.length)] 142
  row : Blk w r (uV .u16 l ++ q) 138
  ne : b ≠ r
  len : 2 ≤ l.length ∧ l.length ≤ 4096
  fits : ∀ n ∈ l, n < 65536
theorem uV_get {k : IntKind} {l : List Nat} {i : Nat} (h : i < l.length) : (uV k l)[i]? = some (.int k ((l.getD i 0 : Nat) : Int)) := by
  simp [uV, h]
theorem uVq_get {k : IntKind} {l : List Nat} {q : List Value} {i : Nat} (h : i < l.length) : (uV k l ++ q)[i]? = some (.int k ((l.getD i 0 : Nat) : Int)) := by
  rw [List.getElem?_append_left (by simpa [uV] using h), uV_get h]
theorem length_uV (k : IntKind) (l : List Nat) : (uV k l).length = l.length := by simp [uV]
theorem uV_set (k : IntKind) (l : List Nat) (i x : Nat) : (uV k l).set i (.int k (x : Int)) = uV k (l.set i x) := by simp [uV, List.map_set]
theorem Cnt.ext {w w' : World} {b r : Nat} {size : Int} {q : List Value} {l : List Nat} (h : Cnt w b r size q l) (he : Ext w w') : Cnt w' b r size q l := ⟨h.head.ext he, h.row.ext he, h.ne, h.len, h.fits⟩
theorem Cnt.kept {w w' : World} {b r k : Nat} {size : Int} {q : List Value} {l : List Nat} (h : Cnt w b r size q l) (hg : w.grownBy w' (some k)) (h1 : b ≠ k) (h2 : r ≠ k) : Cnt w' b r size q l :=
  ⟨h.head.grown hg (by simpa using h1), h.row.grown hg (by simpa using h2), h.ne, h.len, h.fits⟩
theorem Cnt.getD_lt {w : World} {b r : Nat} {size : Int} {q : List Value} {l : List Nat} (h : Cnt w b r size q l) (i : Nat) : l.getD i 0 < 65536 := by
  rcases Nat.lt_or_ge i l.length with hi | hi
  · rw [List.getD_eq_getElem?_getD, List.getElem?_eq_getElem hi]
    exact h.fits _ (List.getElem_mem hi)
  · rw [List.getD_eq_getElem?_getD, List.getElem?_eq_none hi]
    simp
theorem Cnt.set {w : World} {b r i x : Nat} {size : Int} {q : List Value} {l : List Nat} (h : Cnt w b r size q l) (hi : i < l.length) (hx : x < 65536) :
    Cnt (w.setCell ⟨r, i, none⟩ (.int .u16 (x : Int))) b r size q (l.set i x) ∧ w.grownBy (w.setCell ⟨r, i, none⟩ (.int .u16 (x : Int))) (some r) := by
  have hs := h.row.set i (.int .u16 (x : Int))
  rw [List.set_append_left _ _ (by rw [length_uV]; exact hi), uV_set] at hs
  refine ⟨⟨by rw [List.length_set]; exact h.head.other (fun e => h.ne e.symm) _, hs, h.ne, by rw [List.length_set]; exact h.len, fun n hn => ?_⟩, ⟨rfl, rfl, rfl, by simp, fun k hk hne => Below.heap_setCell _ _ _ _ (fun e => hne (by rw [e]))⟩⟩
  rcases List.mem_or_eq_of_mem_set hn with h1 | h1
  · exact h.fits n h1
  · rw [h1]; exact hx
theorem get_calls {w : World} {b r : Nat} {size : Int} {q : List Value} {l : List Nat} (h : Cnt w b r size q l) (n : Nat) (hn : n < 4294967296) : Calls Tryz.prog 42 #[.pointer (some ⟨b, 0, none⟩), .int .u32 (n : Int)] w (Ret fun v w' => v = .int .i64 ((l.getD n 0 : Nat) : Int) ∧ w' = w) := by
  apply calls42
  unfold S42
  have hl := h.len
  refine splitW_f (by rfl) ?_
  refine ptr_i ?_
  refine ld_blk (o := 2) (x := (some ⟨r, 0, none⟩, l.length, l.length + q.length)) h.head (by rfl) ?_
  dsimp only
  rw [wrap_u64_nat (by omega), wrap_u64_nat (by omega)]
  refine splitW_i (fun hh => ?_) (fun hh => ?_)
  · have hh := of_decide_eq_true hh
    refine ⟨?_, rfl⟩
    rw [List.getD_eq_getElem?_getD, List.getElem?_eq_none (by omega)]
    rfl
  have hh := of_decide_eq_false hh
  refine ptr_i ?_
  refine ld_blk (o := 2) (x := (some ⟨r, 0, none⟩, l.length, l.length + q.length)) h.head (by rfl) ?_
  dsimp only
  refine guard_i ⟨by omega, by omega⟩ (ptr_i ?_)
  rw [Int.toNat_natCast, Nat.mul_one]
  refine ld_blk h.row (uVq_get (by omega)) ?_
  have := h.getD_lt n
  rw [wrap_i64 (by omega) (by omega)]
  exact ⟨rfl, rfl⟩
theorem getnil_calls (w : World) (n : Nat) : Calls Tryz.prog 42 #[.pointer none, .int .u32 (n : Int)] w (Ret fun v w' => v = .int .i64 0 ∧ w' = w) := by
  apply calls42
  unfold S42
  exact splitW_t (by rfl) ⟨rfl, rfl⟩
def atE (l : List Nat) (n : Nat) : Int := if n < 2 ∨ l.length ≤ n then 2 else if l.getD n 0 = 0 then 8 else 0
def atP (l : List Nat) (n r : Nat) : Option Addr := if atE l n = 0 then some ⟨r, n, none⟩ else none
theorem at_calls {w : World} {b r : Nat} {size : Int} {q : List Value} {l : List Nat} (h : Cnt w b r size q l) (n : Nat) (hn : n < 4294967296) : Calls Tryz.prog 81 #[.pointer (some ⟨b, 0, none⟩), .int .u32 (n : Int)] w (Ret fun v w' => v = .tuple #[.pointer (atP l n r), .int .i64 (atE l n)] ∧ w' = w) := by
  apply calls81
  unfold S81 atP atE
  have hl := h.len
  refine splitW_f (by rfl) ?_
  refine splitW_i (fun hh => ?_) (fun hh => ?_)
  · have hh := of_decide_eq_true hh
    rw [if_pos (show n < 2 ∨ l.length ≤ n from .inl (by omega))]
    exact ⟨rfl, rfl⟩
  have hh := of_decide_eq_false hh
  refine ptr_i ?_
  refine ld_blk (o := 2) (x := (some ⟨r, 0, none⟩, l.length, l.length + q.length)) h.head (by rfl) ?_
  dsimp only
  rw [wrap_u64_nat (by omega), wrap_u64_nat (by omega)]
  refine splitW_i (fun h2 => ?_) (fun h2 => ?_)
  · have h2 := of_decide_eq_true h2
    rw [if_pos (show n < 2 ∨ l.length ≤ n from .inr (by omega))]
    exact ⟨rfl, rfl⟩
  have h2 := of_decide_eq_false h2
  rw [if_neg (show ¬ (n < 2 ∨ l.length ≤ n) by omega)]
  refine ptr_i ?_
  refine ld_blk (o := 2) (x := (some ⟨r, 0, none⟩, l.length, l.length + q.length)) h.head (by rfl) ?_
  dsimp only
  refine guard_i ⟨by omega, by omega⟩ (ptr_i ?_)
  rw [Int.toNat_natCast, Nat.mul_one]
  refine ld_blk h.row (uVq_get (by omega)) ?_
  refine splitW_i (fun h3 => ?_) (fun h3 => ?_)
  · have h3 : l.getD n 0 = 0 := by rw [beq_iff_eq] at h3; omega
    rw [if_pos h3]
    exact ⟨rfl, rfl⟩
  have h3 : ¬ l.getD n 0 = 0 := by rw [beq_eq_false_iff_ne] at h3; omega
  rw [if_neg h3]
  refine ptr_i ?_
  refine ld_blk (o := 2) (x := (some ⟨r, 0, none⟩, l.length, l.length + q.length)) h.head (by rfl) ?_
  dsimp only
  refine guard_i ⟨by omega, by omega⟩ (ptr_i ?_)
  rw [add_mk, Nat.zero_add]
  exact ⟨rfl, rfl⟩
def subL (l : List Nat) (n : Nat) : List Nat := if atE l n = 0 then l.set n (l.getD n 0 - 1) else l
def subN (l : List Nat) (n : Nat) : Nat := if atE l n = 0 then l.getD n 0 - 1 else 0
theorem atE_cases (l : List Nat) (n : Nat) : atE l n = 0 ∧ 2 ≤ n ∧ n < l.length ∧ l.getD n 0 ≠ 0 ∨ atE l n = 2 ∨ atE l n = 8 := by
  unfold atE
  split
  · exact .inr (.inl rfl)
  · split
    · exact .inr (.inr rfl)
    · exact .inl ⟨rfl, by omega, by omega, by assumption⟩
theorem sub_calls {w : World} {b r : Nat} {size : Int} {q : List Value} {l : List Nat} (h : Cnt w b r size q l) (n : Nat) (hn : n < 4294967296) : Calls Tryz.prog 44 #[.pointer (some ⟨b, 0, none⟩), .int .u32 (n : Int)] w (Ret fun v w' => v = .tuple #[.int .i64 (subN l n : Int), .int .i64 (atE l n)] ∧ Cnt w' b r size q (subL l n) ∧ w.grownBy w' (some r)) := by
  apply calls44
  unfold S44
  refine callW_of (at_calls h n hn) ?_
  rintro _ w1 ⟨rfl, hw⟩
  subst hw
  refine ⟨(atP l n r, atE l n, ()), rfl, ?_⟩
  dsimp only
  rcases atE_cases l n with ⟨h0, h2, hl, hne⟩ | h0
  · have hp : atP l n r = some ⟨r, n, none⟩ := by unfold atP; rw [if_pos h0]
    rw [hp, h0]
    refine splitW_f (by rfl) ?_
    have hfit := h.getD_lt n
    have hr : ∀ {K : Int → WP}, K ((l.getD n 0 : Nat) : Int) w1 → (ptrW (some (⟨r, n, none⟩ : Addr)) fun p => ldW (.int .u16) p K) w1 := fun {K} hk => ⟨_, rfl, ldW_blk h.row (uVq_get hl) hk⟩
    refine hr ?_
    refine ptr_i ?_
    refine stW_blk h.row (by rw [List.length_append, length_uV]; omega) ?_
    rw [show IntKind.wrap .u16 (((l.getD n 0 : Nat) : Int) - 1) = ((l.getD n 0 - 1 : Nat) : Int) from by rw [wrap_u16]; omega]
    obtain ⟨hc, hg⟩ := h.set (x := l.getD n 0 - 1) hl (by omega)
    refine ptr_i ?_
    refine ldW_blk hc.row (uVq_get (by rw [List.length_set]; exact hl)) ?_
    have e : (l.set n (l.getD n 0 - 1)).getD n 0 = l.getD n 0 - 1 := by
      rw [List.getD_eq_getElem?_getD, List.getElem?_set_self hl]
      rfl
    rw [e, wrap_i64 (by omega) (by omega)]
    have e1 : subN l n = l.getD n 0 - 1 := by unfold subN; rw [if_pos h0]
    have e2 : subL l n = l.set n (l.getD n 0 - 1) := by unfold subL; rw [if_pos h0]
    rw [e1, e2]
    exact ⟨rfl, hc, hg⟩
  · have hne : atE l n ≠ 0 := by rcases h0 with h0 | h0 <;> rw [h0] <;> decide
    have e1 : subN l n = 0 := by unfold subN; rw [if_neg hne]
    have e2 : subL l n = l := by unfold subL; rw [if_neg hne]
    rw [e1, e2]
    refine splitW_t (by simpa using hne) ?_
    exact ⟨rfl, h, grownBy_refl _ _⟩
def addE (l : List Nat) (n : Nat) : Int := if atE l n = 0 then (if l.getD n 0 = 65535 then 12 else 0) else atE l n
def addL (l : List Nat) (n : Nat) : List Nat := if addE l n = 0 then l.set n (l.getD n 0 + 1) else l
theorem add_calls {w : World} {b r : Nat} {size : Int} {q : List Value} {l : List Nat} (h : Cnt w b r size q l) (n : Nat) (hn : n < 4294967296) : Calls Tryz.prog 63 #[.pointer (some ⟨b, 0, none⟩), .int .u32 (n : Int)] w (Ret fun v w' => v = .int .i64 (addE l n) ∧ Cnt w' b r size q (addL l n) ∧ w.grownBy w' (some r)) := by
  apply calls63
  unfold S63
  refine callW_of (at_calls h n hn) ?_
  rintro _ w1 ⟨rfl, hw⟩
  subst hw
  refine ⟨(atP l n r, atE l n, ()), rfl, ?_⟩
  dsimp only
  rcases atE_cases l n with ⟨h0, h2, hl, hne⟩ | h0
  · have hp : atP l n r = some ⟨r, n, none⟩ := by unfold atP; rw [if_pos h0]
    rw [hp, h0]
    refine splitW_f (by rfl) ?_
    have hfit := h.getD_lt n
    refine ptr_i ?_
    refine ldW_blk h.row (uVq_get hl) ?_
    refine splitW_i (fun hm => ?_) (fun hm => ?_)
    · have hm : l.getD n 0 = 65535 := by rw [beq_iff_eq] at hm; omega
      have e1 : addE l n = 12 := by unfold addE; rw [if_pos h0, if_pos hm]
      have e2 : addL l n = l := by unfold addL; rw [e1]; rfl
      rw [e1, e2]
      exact ⟨rfl, h, grownBy_refl _ _⟩
    · have hm : ¬ l.getD n 0 = 65535 := by rw [beq_eq_false_iff_ne] at hm; omega
      have e1 : addE l n = 0 := by unfold addE; rw [if_pos h0, if_neg hm]
      have e2 : addL l n = l.set n (l.getD n 0 + 1) := by unfold addL; rw [if_pos e1]
      rw [e1, e2]
      refine ptr_i ?_
      refine ldW_blk h.row (uVq_get hl) ?_
      refine ptr_i ?_
      refine stW_blk h.row (by rw [List.length_append, length_uV]; omega) ?_
      rw [show IntKind.wrap .u16 (((l.getD n 0 : Nat) : Int) + 1) = ((l.getD n 0 + 1 : Nat) : Int) from by rw [wrap_u16]; omega]
      obtain ⟨hc, hg⟩ := h.set (x := l.getD n 0 + 1) hl (by omega)
      exact ⟨rfl, hc, hg⟩
  · have hne : atE l n ≠ 0 := by rcases h0 with h0 | h0 <;> rw [h0] <;> decide
    have e1 : addE l n = atE l n := by unfold addE; rw [if_neg hne]
    have e2 : addL l n = l := by unfold addL; rw [e1, if_neg hne]
    rw [e1, e2]
    refine splitW_t (by simpa using hne) ?_
    exact ⟨rfl, h, grownBy_refl _ _⟩
theorem fields_geo (w : World) (a b c d : Int) : (Op.eqFields 9999 #[.int .i64 a, .int .i64 b] #[.int .i64 c, .int .i64 d] (Tryz.prog.fieldsOf 23).toList).run Tryz.prog w = .ok (a == c && (b == d && true)) w := by
  have hf : (Tryz.prog.fieldsOf 23).toList = [(Tryz.prog.fieldsOf 23).getD 0 default, (Tryz.prog.fieldsOf 23).getD 1 default] := by kernel_rfl
  rw [hf]
  refine eqFields_step (of_decide_eq_true (by kernel_rfl)) (a := .int .i64 a) (b := .int .i64 c) (by kernel_rfl) (by kernel_rfl) (run_equalIn_int w 9998 _ .i64 .i64 _ _ (by kernel_rfl)) ?_
  refine eqFields_step (of_decide_eq_true (by kernel_rfl)) (a := .int .i64 b) (b := .int .i64 d) (by kernel_rfl) (by kernel_rfl) (run_equalIn_int w 9998 _ .i64 .i64 _ _ (by kernel_rfl)) ?_
  rfl
theorem neq_geo (w : World) (a b : Int) (x y : Operand) : (eqS .neq 23 x y (.agg #[.int .i64 a, .int .i64 b]) (.agg #[.int .i64 a, .int .i64 b])).run Tryz.prog w = .ok (.bool false) w := by
  have := eqS_neq (x := x) (y := y) (by kernel_rfl) (by kernel_rfl) (by kernel_rfl) (fields_geo w a b a b)
  simpa using this
def HeldC (w : World) (x : Option Addr) (b r : Nat) (size : Int) (len : Nat) (hl : List Nat) : Prop :=
  (x = none ∧ hl = []) ∨ ∃ b2 r2, x = some ⟨b2, 0, none⟩ ∧ (∃ q2, Cnt w b2 r2 size q2 hl) ∧ hl.length = len ∧ b2 ≠ r ∧ r2 ≠ r
def freeAt (l hl : List Nat) (i : Nat) : Bool := l.getD i 0 == 0 && hl.getD i 0 == 0
def takeI (l hl : List Nat) : Nat := (List.range l.length).findIdx (freeAt l hl)
def takeN (l hl : List Nat) : Nat := if takeI l hl < l.length then takeI l hl else 0
def takeE (l hl : List Nat) : Int := if takeI l hl < l.length then 0 else 9
def takeL (l hl : List Nat) : List Nat := if takeI l hl < l.length then l.set (takeI l hl) 1 else l
theorem takeI_not {l hl : List Nat} {i : Nat} (h : i < takeI l hl) : freeAt l hl i = false := by
  have := List.not_of_lt_findIdx (p := freeAt l hl) (xs := List.range l.length) h
  simpa using this
theorem takeI_is {l hl : List Nat} (h : takeI l hl < l.length) : freeAt l hl (takeI l hl) = true := by
  have := List.findIdx_getElem (p := freeAt l hl) (xs := List.range l.length) (w := by rw [List.length_range]; exact h)
  rw [List.getElem_range] at this
  exact this
theorem take_calls {w : World} {b r : Nat} {size : Int} {q : List Value} {l hl : List Nat} {x : Option Addr} (h : Cnt w b r size q l) (hh : HeldC w x b r size l.length hl) :
    Calls Tryz.prog 80 #[.pointer (some ⟨b, 0, none⟩), .pointer x] w (Ret fun v w' => v = .tuple #[.int .u32 ((takeN l hl : Nat) : Int), .int .i64 (takeE l hl)] ∧ Cnt w' b r size q (takeL l hl) ∧ w.grownBy w' (some r)) := by
  apply calls80
  unfold S80
  have hlen := h.len
  refine joinW_s (fun _ w' => w' = w.drew) ?_ (fun J hJ => ?_)
  · rintro _ w1 hw1
    have hcw : Cnt w1 b r size q l := by rw [hw1]; exact h.ext (Ext.refl w).drew
    have hg0 : w.grownBy w1 (some r) := by rw [hw1]; exact grownBy_of_ext (Ext.refl w).drew _
    have hh1 : HeldC w1 x b r size l.length hl := by
      rcases hh with hh | ⟨b2, r2, h1, h2, h3⟩
      · exact .inl hh
      · obtain ⟨q2, h2⟩ := h2
        exact .inr ⟨b2, r2, h1, ⟨q2, by rw [hw1]; exact h2.ext (Ext.refl w).drew⟩, h3⟩
    refine ptr_i ?_
    refine ld_blk (o := 2) (x := (some ⟨r, 0, none⟩, l.length, l.length + q.length)) hcw.head (by rfl) ?_
    dsimp only
    refine loopW_i (fun y w' => w' = w1 ∧ ∃ i : Nat, i ≤ l.length ∧ y = ((i : Int), ()) ∧ i ≤ takeI l hl) (fun y => (l.length - y.1).toNat) ⟨rfl, 0, by omega, rfl, by omega⟩ ?_
    rintro _ _ ⟨rfl, i, hi, rfl, hti⟩
    dsimp only
    rename_i w1
    by_cases hlt : i < l.length
    · refine splitW_t (decide_eq_true (by omega)) ?_
      refine guard_i ⟨by omega, by omega⟩ (ptr_i ?_)
      rw [Int.toNat_natCast, Nat.mul_one]
      refine ld_blk hcw.row (uVq_get hlt) ?_
      rw [wrap_u32_nat (by omega), wrap_i64 (x := (i : Int) + 1) (by omega) (by omega)]
      have next : freeAt l hl i = false → i + 1 ≤ takeI l hl := fun hf => by
        rcases Nat.lt_or_ge i (takeI l hl) with h1 | h1
        · omega
        · have hii : takeI l hl = i := by omega
          have := takeI_is (l := l) (hl := hl) (by omega)
          rw [hii, hf] at this
          cases this
      refine splitW_i (fun hz => ?_) (fun hz => ?_)
      · have hz : l.getD i 0 = 0 := by rw [beq_iff_eq] at hz; omega
        have hget : Calls Tryz.prog 42 #[.pointer x, .int .u32 (i : Int)] w1 (Ret fun v w' => v = .int .i64 ((hl.getD i 0 : Nat) : Int) ∧ w' = w1) := by
          rcases hh1 with ⟨rfl, rfl⟩ | ⟨b2, r2, rfl, ⟨q2, hc2⟩, _⟩
          · exact getnil_calls w1 i
          · exact get_calls hc2 i (by omega)
        refine callW_of hget ?_
        rintro _ w2 ⟨rfl, hw2⟩
        subst hw2
        refine ⟨_, rfl, ?_⟩
        refine splitW_i (fun hz2 => ?_) (fun hz2 => ?_)
        · have hz2 : hl.getD i 0 = 0 := by rw [beq_iff_eq] at hz2; omega
          have hfr : freeAt l hl i = true := by unfold freeAt; rw [hz, hz2]; rfl
          have htake : takeI l hl = i := by
            rcases Nat.lt_or_ge i (takeI l hl) with h1 | h1
            · rw [takeI_not h1] at hfr; cases hfr
            · omega
          refine ptr_i ?_
          refine ld_blk (o := 2) (x := (some ⟨r, 0, none⟩, l.length, l.length + q.length)) hcw.head (by rfl) ?_
          dsimp only
          refine guard_i ⟨by omega, by omega⟩ (ptr_i ?_)
          rw [add_mk, Nat.zero_add]
          refine stW_blk hcw.row (by rw [List.length_append, length_uV]; omega) ?_
          obtain ⟨hc, hg⟩ := hcw.set (x := 1) hlt (by omega)
          have e1 : takeN l hl = i := by unfold takeN; rw [htake, if_pos hlt]
          have e2 : takeE l hl = 0 := by unfold takeE; rw [htake, if_pos hlt]
          have e3 : takeL l hl = l.set i 1 := by unfold takeL; rw [htake, if_pos hlt]
          rw [e1, e2, e3]
          exact ⟨rfl, hc, grownBy_tr hg0 hg (fun j hj => .inl hj)⟩
        · have hz2 : ¬ hl.getD i 0 = 0 := by rw [beq_eq_false_iff_ne] at hz2; omega
          refine ⟨⟨rfl, i + 1, by omega, rfl, next ?_⟩, by omega⟩
          unfold freeAt
          rw [Bool.and_eq_false_iff]
          right
          rw [beq_eq_false_iff_ne]
          exact hz2
      · have hz : ¬ l.getD i 0 = 0 := by rw [beq_eq_false_iff_ne] at hz; omega
        refine ⟨⟨rfl, i + 1, by omega, rfl, next ?_⟩, by omega⟩
        unfold freeAt
        rw [Bool.and_eq_false_iff]
        left
        rw [beq_eq_false_iff_ne]
        exact hz
    · obtain rfl : i = l.length := by omega
      refine splitW_f (decide_eq_false (by omega)) ?_
      have hno : ¬ takeI l hl < l.length := by omega
      have e1 : takeN l hl = 0 := by unfold takeN; rw [if_neg hno]
      have e2 : takeE l hl = 9 := by unfold takeE; rw [if_neg hno]
      have e3 : takeL l hl = l := by unfold takeL; rw [if_neg hno]
      rw [e1, e2, e3]
      exact ⟨rfl, hcw, hg0⟩
  · refine splitW_f (by rfl) ?_
    show (splitW _ _ _) w.drew
    rcases hh with ⟨rfl, rfl⟩ | ⟨b2, r2, rfl, ⟨q2, hc2⟩, hl2, _, _⟩
    · exact splitW_f (by rfl) (hJ _ _ rfl)
    · refine splitW_t (by rfl) ?_
      have hcd := h.ext (Ext.refl w).drew
      have hcd2 := hc2.ext (Ext.refl w).drew
      refine ptr_i ?_
      have rd : ∀ {b r : Nat} {q : List Value} {l : List Nat} {K : (Int × Int × Unit) → WP}, Cnt w.drew b r size q l → K (size, (l.length : Int), ()) w.drew → ldAW [(.int .i64), (.int .i64)] ⟨b, 0, none⟩ K w.drew := fun {b r q l K} hc hk => by
        refine ldA_i (ls := [(.int .i64), (.int .i64)]) (x := (size, (l.length : Int), ())) ?_ hk
        have := hc.head.cellsAt
        exact ⟨this.1, this.2.1, trivial⟩
      refine rd hcd2 ?_
      refine ptr_i ?_
      refine rd hcd ?_
      rw [hl2]
      refine ⟨false, fun w' => neq_geo w' _ _ _ _, ?_⟩
      exact splitW_f rfl (hJ _ _ rfl)
theorem elem_u16 : Elem Tryz.prog 140 138 (.int .u16 0) 2 := by
  refine ⟨by kernel_rfl, by kernel_rfl, rfl⟩
theorem uV_one (k : IntKind) (xs : List Nat) : ∀ v ∈ uV k xs, v.oneCell' = true := by
  intro v hv
  obtain ⟨t, _, rfl⟩ := List.mem_map.1 hv
  rfl
theorem clone16_calls {w : World} {r n cc : Nat} {l : List Nat} (h : Sl w (some ⟨r, 0, none⟩) n (uV .u16 l)) (hm : n ≤ 4096) : Calls Tryz.prog 76 #[.slice (some ⟨r, 0, none⟩) n cc] w (Ret fun v w' => ∃ A c, v = .slice A n c ∧ Own 138 w' w.heap.size A n c (uV .u16 l) ∧ Ext w w') := by
  apply calls76
  unfold S76
  refine splitW_f (by rfl) ?_
  apply newW_i
  have ho : Own 138 (w.alloc (.cells #[] 138)) w.heap.size (some ⟨w.heap.size, 0, none⟩) 0 0 [] := Own.lit (cs := #[]) (Nat.le_refl _) (by simp)
  have he : Ext w (w.alloc (.cells #[] 138)) := (Ext.refl w).alloc _
  have hs : Sl (w.alloc (.cells #[] 138)) (some ⟨r, 0, none⟩) n (uV .u16 l) := h.ext he
  refine append_sl (c := 0) (n := 0) (m := n) elem_u16 ho he.size hs (uV_one .u16 l) (by omega) (by omega) ?_
  intro A' c' w' ho' hg _
  rw [List.nil_append, Nat.zero_add] at ho'
  rw [Nat.zero_add]
  exact ⟨A', c', rfl, ho', he.grown hg.grown (ho.row')⟩
def newL (n : Nat) : List Nat := 1 :: 1 :: List.replicate (n - 2) 0
theorem new_calls (w : World) (size blocks : Int) : Calls Tryz.prog 69 #[.agg #[.int .i64 size, .int .i64 blocks]] w (Ret fun v w' => ∃ x : Option Addr, v = .tuple #[.pointer x, .int .i64 (if geoOK size blocks then 0 else 2)] ∧ (if geoOK size blocks then ∃ b r, x = some ⟨b, 0, none⟩ ∧ Cnt w' b r size [] (newL blocks.toNat) ∧ w.heap.size ≤ b ∧ w.heap.size ≤ r else x = none) ∧ Ext w w') := by
  apply calls69
  unfold S69
  apply newW_i
  have hb : Blk (w.alloc (.cells #[(.int .i64 size), (.int .i64 blocks)] 23)) w.heap.size [(.int .i64 size), (.int .i64 blocks)] 23 := Blk.new w _ _
  have he : Ext w (w.alloc (.cells #[(.int .i64 size), (.int .i64 blocks)] 23)) := (Ext.refl w).alloc _
  generalize w.alloc (.cells #[(.int .i64 size), (.int .i64 blocks)] 23) = w1 at hb he ⊢
  refine ldA_blk (ls := [(.int .i64), (.int .i64)]) (x := (size, blocks, ())) hb rfl ?_
  refine callW_of (devcheck_calls w1 size blocks) ?_
  rintro _ w2 ⟨rfl, he2⟩
  refine ⟨_, rfl, ?_⟩
  have he02 := he.trans he2
  have hb2 := hb.ext he2
  cases hok : geoOK size blocks with
  | false =>
    rw [if_neg (by simp)]
    refine splitW_t (by rfl) ?_
    exact ⟨none, rfl, by rw [if_neg (by simp)], he02⟩
  | true =>
    rw [if_pos rfl]
    refine splitW_f (by rfl) ?_
    unfold geoOK at hok
    have hok := of_decide_eq_true hok
    obtain ⟨n, rfl⟩ : ∃ n : Nat, blocks = n := ⟨blocks.toNat, by omega⟩
    have he3 := he02.drew
    have hb3 := hb2.drew
    show (ldAW _ _ _) w2.drew
    generalize w2.drew = w3 at he3 hb3 ⊢
    refine ldA_blk (ls := [(.int .i64), (.int .i64)]) (x := (size, (n : Int), ())) hb3 rfl ?_
    refine ld_blk (o := 1) (x := (n : Int)) hb3 (by rfl) ?_
    refine make_own (B := w3.heap.size) elem_u16 rfl (Nat.le_refl _) (by omega) (by omega) ?_
    intro w4 ho4 hg4
    have he4 : Ext w w4 := he3.none hg4
    have h34 : Ext w3 w4 := (Ext.refl w3).none hg4
    have hrow : Blk w4 w3.heap.size (List.replicate n (.int .u16 0)) 138 := own_full ho4
    have hr1 : w.heap.size ≤ w3.heap.size := he3.size
    generalize w3.heap.size = r at hrow hr1 ⊢
    have hb4 := hb3.ext h34
    refine ⟨fun ls hls p hp => ?_, ?_⟩
    · simp only [List.mem_singleton] at hls
      subst hls
      have hc := hb4.cellsAt
      rcases List.mem_cons.1 hp with rfl | hp
      · exact hc.1
      · rcases List.mem_cons.1 hp with rfl | hp
        · exact hc.2.1
        · cases hp
    apply newW_i
    have hnb : Blk (w4.alloc (.cells #[(.int .i64 size), (.int .i64 (n : Int)), (.slice (some ⟨r, 0, none⟩) n n)] 142)) w4.heap.size [(.int .i64 size), (.int .i64 (n : Int)), (.slice (some ⟨r, 0, none⟩) n n)] 142 := Blk.new w4 _ _
    have hrow5 := hrow.alloc (.cells #[(.int .i64 size), (.int .i64 (n : Int)), (.slice (some ⟨r, 0, none⟩) n n)] 142)
    have he5 := he4.alloc (.cells #[(.int .i64 size), (.int .i64 (n : Int)), (.slice (some ⟨r, 0, none⟩) n n)] 142)
    have hrlt := hrow.lt
    have hb1 := he4.size
    dsimp only at hnb hrow5 he5 ⊢
    generalize w4.alloc (.cells #[(.int .i64 size), (.int .i64 (n : Int)), (.slice (some ⟨r, 0, none⟩) n n)] 142) = w5 at hnb hrow5 he5 ⊢
    generalize w4.heap.size = b at hnb hrlt hb1 ⊢
    have he6 := he5.drew
    have hnb6 := hnb.drew
    have hrow6 := hrow5.drew
    show (ptrW _ _) w5.drew
    generalize w5.drew = w6 at he6 hnb6 hrow6 ⊢
    refine ptr_i ?_
    refine ld_blk (o := 2) (x := (some ⟨r, 0, none⟩, n, n)) hnb6 (by rfl) ?_
    refine ptr_i ?_
    refine ld_blk (o := 2) (x := (some ⟨r, 0, none⟩, n, n)) hnb6 (by rfl) ?_
    dsimp only
    refine guard_i ⟨by omega, by omega⟩ (ptr_i ?_)
    rw [show ((⟨r, 0, none⟩ : Addr).add (Int.toNat 0 * 1)) = ⟨r, 0, none⟩ by rw [add_mk]; rfl]
    refine stW_blk hrow6 (by rw [List.length_replicate]; omega) ?_
    have hrow7 := hrow6.set 0 (.int .u16 1)
    have hnb7 := hnb6.other (p := ⟨r, 0, none⟩) (by simp only; omega) (.int .u16 1)
    have he7 := he6.set (p := ⟨r, 0, none⟩) hr1 (.int .u16 1)
    refine guard_i ⟨by omega, by omega⟩ (ptr_i ?_)
    rw [show ((⟨r, 0, none⟩ : Addr).add (Int.toNat 1 * 1)) = ⟨r, 1, none⟩ by rw [add_mk]; rfl]
    refine stW_blk hrow7 (by rw [List.length_set, List.length_replicate]; omega) ?_
    have hrow8 := hrow7.set 1 (.int .u16 1)
    have hnb8 := hnb7.other (p := ⟨r, 1, none⟩) (by simp only; omega) (.int .u16 1)
    have he8 := he7.set (p := ⟨r, 1, none⟩) hr1 (.int .u16 1)
    refine ⟨some ⟨b, 0, none⟩, rfl, ?_, he8⟩
    rw [if_pos rfl]
    have hlen : (newL (Int.toNat (n : Int))).length = n := by simp [newL]; omega
    have hcells : ((List.replicate n (Value.int .u16 0)).set 0 (.int .u16 1)).set 1 (.int .u16 1) = uV .u16 (newL (Int.toNat (n : Int))) ++ [] := by
      rw [List.append_nil, Int.toNat_natCast]
      obtain ⟨m, rfl⟩ : ∃ m, n = m + 2 := ⟨n - 2, by omega⟩
      simp [newL, uV, List.replicate_succ]
    rw [hcells] at hrow8
    refine ⟨b, r, rfl, ⟨by rw [hlen]; exact hnb8, hrow8, by omega, by rw [hlen]; omega, fun x hx => ?_⟩, hb1, hr1⟩
    simp only [newL, List.mem_cons, List.mem_replicate] at hx
    omega
theorem own_rows {e : TypeId} {w : World} {B n c : Nat} {A : Option Addr} {vs : List Value} (h : Own e w B A n c vs) (hn : 0 < n) : ∃ g q, A = some ⟨g, 0, none⟩ ∧ Blk w g (vs ++ q) e ∧ c = n + q.length ∧ B ≤ g := by
  rcases h.2 with ⟨h1, h2⟩ | ⟨g, cap, cur, hv, hbg, hg, hnc, hcm, hcs, htake⟩
  · omega
  · injection hv with hv1 hv2 hv3
    subst hv1 hv3
    refine ⟨g, cur.toList.drop n, rfl, ?_, by rw [List.length_drop, Array.length_toList, hcs]; omega, hbg⟩
    rw [← htake, Nat.mul_one, List.take_append_drop]
    show w.heap[g]? = _
    rw [hg]
theorem cntclone_calls {w : World} {b r : Nat} {size : Int} {q : List Value} {l : List Nat} (h : Cnt w b r size q l) : Calls Tryz.prog 38 #[.pointer (some ⟨b, 0, none⟩)] w (Ret fun v w' => (∃ b2 r2 q2, v = .pointer (some ⟨b2, 0, none⟩) ∧ Cnt w' b2 r2 size q2 l ∧ w.heap.size ≤ b2 ∧ w.heap.size ≤ r2) ∧ Ext w w') := by
  apply calls38
  unfold S38
  have hl := h.len
  refine splitW_f (by rfl) ?_
  have he1 := (Ext.refl w).drew
  have h1 := h.ext he1
  show (ptrW _ _) w.drew
  generalize w.drew = w1 at he1 h1 ⊢
  refine ptr_i ?_
  have hc := h1.head.cellsAt
  refine ldA_i (ls := [(.int .i64), (.int .i64)]) (x := (size, (l.length : Int), ())) ⟨hc.1, hc.2.1, trivial⟩ ?_
  refine ptr_i ?_
  refine ld_blk (o := 2) (x := (some ⟨r, 0, none⟩, l.length, l.length + q.length)) h1.head (by rfl) ?_
  dsimp only
  have hsl : Sl w1 (some ⟨r, 0, none⟩) l.length (uV .u16 l) := ⟨by rw [length_uV], by omega, fun _ => ⟨_, rfl, fun j v hj => by
    have hjl : j < (uV .u16 l).length := (List.getElem?_eq_some_iff.1 hj).1
    rw [add_mk, h1.row.cell, Nat.zero_add, List.getElem?_append_left hjl]
    exact hj⟩⟩
  refine callW_of (clone16_calls hsl (by omega)) ?_
  rintro _ w2 ⟨A, c, rfl, ho, he2⟩
  refine ⟨(A, l.length, c), rfl, ?_⟩
  dsimp only
  obtain ⟨g, q2, rfl, hg, rfl, hBg⟩ := own_rows ho (by omega)
  have h2 := h1.ext he2
  have hc2 := h2.head.cellsAt
  refine ⟨fun ls hls p hp => ?_, ?_⟩
  · simp only [List.mem_singleton] at hls
    subst hls
    rcases List.mem_cons.1 hp with rfl | hp
    · exact hc2.1
    · rcases List.mem_cons.1 hp with rfl | hp
      · exact hc2.2.1
      · cases hp
  apply newW_i
  have hnb : Blk (w2.alloc (.cells #[(.int .i64 size), (.int .i64 (l.length : Int)), (.slice (some ⟨g, 0, none⟩) l.length (l.length + q2.length))] 142)) w2.heap.size [(.int .i64 size), (.int .i64 (l.length : Int)), (.slice (some ⟨g, 0, none⟩) l.length (l.length + q2.length))] 142 := Blk.new w2 _ _
  have hgl := hg.lt
  have hs1 := he1.size
  have hs2 := he2.size
  exact ⟨⟨w2.heap.size, g, q2, rfl, ⟨hnb, hg.alloc _, by omega, hl, h.fits⟩, by omega, by omega⟩, (he1.trans he2).alloc _⟩
end Go.Proofs.YtjdmggaeagnolaaGreatDoor.V
/- Contracts of counts.Pages and what it calls. -/
namespace Go.Proofs.YtjdmggaeagnolaaGreatDoor.V
open Go Go.Proofs Go.RowKit
theorem elem_strK : ElemK Tryz.prog 85 9 (.string ByteArray.empty) strE.k 16 := by
  refine ⟨by kernel_rfl, by kernel_rfl, rfl⟩
theorem Owni.sameBut {α : Type} {E : Enc α} {e : TypeId} {w w' : World} {B a b n c : Nat} {A : Option Addr} {xs : List α} (h : Owni E e w B A n c xs) (hs : SameBut a b w w') (ha : a < B) (hb : b < B) : Owni E e w' B A n c xs := by
  refine ⟨h.1, ?_⟩
  rcases h.2 with h1 | ⟨g, cap, cur, hv, hB, hg, r⟩
  · exact .inl h1
  · exact .inr ⟨g, cap, cur, hv, hB, (hs.2.2.2.2 g (by omega) (by omega)).trans hg, r⟩
theorem Ext.sameBut {w0 w w' : World} {a b : Nat} (h : Ext w0 w) (hs : SameBut a b w w') (ha : w0.heap.size ≤ a) (hb : w0.heap.size ≤ b) : Ext w0 w' :=
  ⟨hs.1.trans h.os, hs.2.1.trans h.tape, hs.2.2.1.trans h.output, by have := h.size; have := hs.2.2.2.1; omega, fun k hk => (hs.2.2.2.2 k (by omega) (by omega)).trans (h.block k hk)⟩
def pageB (l : List Nat) (per i : Nat) : List UInt8 := ((l.drop (i * per)).take per).flatMap (le 2)
def pagesL (l : List Nat) (per : Nat) : List ByteArray := (List.range (cutsN l.length per)).map fun i => ⟨(pageB l per i).toArray⟩
def perOf (size : Int) : Nat := (Int.tdiv (roomOf size) 2).toNat
theorem perOf_spec {size : Int} (hs : geoOK size 8 = true) : 56 ≤ perOf size ∧ perOf size ≤ 2040 ∧ IntKind.wrap .i64 (Int.tdiv (roomOf size) 2) = ((perOf size : Nat) : Int) := by
  unfold perOf roomOf
  rw [if_pos hs]
  unfold geoOK at hs
  have hs := of_decide_eq_true hs
  have e : Int.tdiv (size - 16) 2 = (size - 16) / 2 := Int.tdiv_eq_ediv_of_nonneg (by omega)
  rw [e, wrap_i64 (by omega) (by omega)]
  omega
theorem uV_sl {w : World} {r n : Nat} {l : List Nat} {q : List Value} {k : IntKind} {t : TypeId} (h : Blk w r (uV k l ++ q) t) (hn : l.length = n) (hm : n ≤ 4096) : Sl w (some ⟨r, 0, none⟩) n (uV k l) :=
  ⟨by rw [length_uV, hn], by omega, fun _ => ⟨_, rfl, fun j v hj => by
    have hjl : j < (uV k l).length := (List.getElem?_eq_some_iff.1 hj).1
    rw [add_mk, h.cell, Nat.zero_add, List.getElem?_append_left hjl]
    exact hj⟩⟩
theorem uV_drop (k : IntKind) (l : List Nat) (i : Nat) : (uV k l).drop i = uV k (l.drop i) := by simp [uV, List.map_drop]
theorem uV_take (k : IntKind) (l : List Nat) (i : Nat) : (uV k l).take i = uV k (l.take i) := by simp [uV, List.map_take]
theorem pages_calls {w : World} {b r : Nat} {size : Int} {q : List Value} {l : List Nat} (h : Cnt w b r size q l) (hs : geoOK size 8 = true) : Calls Tryz.prog 73 #[.pointer (some ⟨b, 0, none⟩)] w (Ret fun v w' => ∃ x : Option Addr × Nat × Nat, v = .slice x.1 x.2.1 x.2.2 ∧ Owni strE 9 w' w.heap.size x.1 x.2.1 x.2.2 (pagesL l (perOf size)) ∧ Ext w w') := by
  apply calls73
  unfold S73
  have hl := h.len
  obtain ⟨hp1, hp2, hper⟩ := perOf_spec hs
  apply newW_i
  have hr1 := Blk.new w #[.slice none 0 0] 85
  have he1 := (Ext.refl w).alloc (.cells #[.slice none 0 0] 85)
  generalize w.alloc (.cells #[.slice none 0 0] 85) = w1 at hr1 he1 ⊢
  generalize hrr : w.heap.size = r1 at hr1 ⊢
  refine splitW_f (by rfl) ?_
  have he1 := he1.drew
  have hr1 := hr1.drew
  have h1 := h.ext he1
  show (ptrW _ _) w1.drew
  generalize w1.drew = w2 at he1 hr1 h1 ⊢
  refine ptr_i ?_
  refine ld_blk (o := 2) (x := (some ⟨r, 0, none⟩, l.length, l.length + q.length)) h1.head (by rfl) ?_
  dsimp only
  refine ptr_i ?_
  refine ldW_blk (x := size) h1.head (by rfl) ?_
  refine callW_of (room_calls w2 size) ?_
  rintro _ w3 ⟨rfl, he3⟩
  refine ⟨_, rfl, ?_⟩
  have he03 := he1.trans he3
  have hr3 := hr1.ext he3
  have h3 := h1.ext he3
  refine ⟨fun ls hls p hp => ?_, ?_⟩
  · simp only [List.mem_singleton] at hls
    subst hls
    simp only [List.mem_singleton] at hp
    subst hp
    exact h3.head.cellsAt.2.2.1
  rw [hper]
  refine callW_of (chunk16_calls (by omega) (by omega) (by omega)) ?_
  rintro v w4 ⟨hit, hRc, hs4, he4⟩
  refine ⟨v, rfl, ?_⟩
  have he04 := he03.trans he4
  have hr4 := hr3.ext he4
  have h4 := h3.ext he4
  have hsz := he03.size
  have hr3lt := hr3.lt
  generalize hper2 : perOf size = per at *
  refine range_i (R := RChunk16 w3.heap.size (w3.heap.size + 1) (some ⟨r, 0, none⟩) l.length (l.length + q.length) per) (fun i w' => Ext w w' ∧ RChunk16 w3.heap.size (w3.heap.size + 1) (some ⟨r, 0, none⟩) l.length (l.length + q.length) per w' ∧ ∃ A c, Blk w' r1 [.slice A i c] 85 ∧ Owni strE 9 w' (w4.heap.size + 2) A i c ((pagesL l per).take i)) hit (fun i w' hI => hI.2.1) (fun i w' hI => ⟨hI.1.drew, hI.2⟩) ?_ ?_ ?_ ?_
  · rintro i w' w'' hsb ⟨e1, ⟨e2, e3⟩, A, c, e4, e5⟩
    exact ⟨e1.sameBut hsb (by omega) (by omega), ⟨(hsb.2.2.2.2 _ (by omega) (by omega)).trans e2, (hsb.2.2.2.2 _ (by omega) (by omega)).trans e3⟩, A, c, (hsb.2.2.2.2 _ (by omega) (by omega)).trans e4, e5.sameBut hsb (by omega) (by omega)⟩
  · intro o
    exact ⟨(he04.alloc _).alloc _, ⟨(hRc.1.alloc _).alloc _, (hRc.2.alloc _).alloc _⟩, none, 0, (hr4.alloc _).alloc _, Owni.nil _ _ _⟩
  · rintro i hi w' N jump ⟨e1, ⟨e2, e3⟩, A, c, e4, e5⟩ hsz' hN
    rw [cutsV_length] at hi
    have hin := (cutsN_lt (by omega)).1 hi
    refine ⟨((cutAddr (some ⟨r, 0, none⟩) (i * per) (i * per + min per (l.length - i * per)) 1, min per (l.length - i * per), min per (l.length - i * per)), ()), by simp [cutsV], ?_⟩
    dsimp only
    have hcut : Sl w' (cutAddr (some ⟨r, 0, none⟩) (i * per) (i * per + min per (l.length - i * per)) 1) (min per (l.length - i * per)) (uV .u16 ((l.drop (i * per)).take per)) := by
      have := (uV_sl (h.ext e1).row rfl hl.2).cut (l := i * per) (k := min per (l.length - i * per)) (m := i * per + min per (l.length - i * per)) (by omega) (by omega)
      rw [uV_drop, uV_take] at this
      have e : (l.drop (i * per)).take (min per (l.length - i * per)) = (l.drop (i * per)).take per := by
        rcases Nat.le_total per (l.length - i * per) with h | h
        · rw [Nat.min_eq_left h]
        · rw [Nat.min_eq_right h, List.take_of_length_le (by simp), List.take_of_length_le (by simpa using h)]
      rw [e] at this
      exact this
    have hml : ((l.drop (i * per)).take per).length = min per (l.length - i * per) := by simp
    generalize min per (l.length - i * per) = m at hcut hml ⊢
    generalize cutAddr (some ⟨r, 0, none⟩) (i * per) (i * per + m) 1 = X at hcut ⊢
    have hpage : pageB l per i = ((l.drop (i * per)).take per).flatMap (le 2) := rfl
    have hcs : ∀ x ∈ (l.drop (i * per)).take per, x < 65536 := fun x hx => h.fits x (List.mem_of_mem_drop (List.mem_of_mem_take hx))
    have hm : m ≤ 4096 := by have : ((l.drop (i * per)).take per).length ≤ l.length := by simp; omega
                             omega
    generalize (l.drop (i * per)).take per = cs at hcut hml hpage hcs
    refine loopW_i (fun y w2 => Ext w' w2 ∧ ∃ (j : Nat) (A2 : Option Addr) (c2 : Nat), j ≤ m ∧ y = ((A2, 2 * j, c2), (j : Int), ()) ∧ Own 5 w2 w'.heap.size A2 (2 * j) c2 (bV ((cs.take j).flatMap (le 2)))) (fun y => (m - y.2.1).toNat) ⟨Ext.refl w', 0, none, 0, by omega, rfl, Own.nil _ _ _⟩ ?_
    rintro _ w5 ⟨e6, j, A2, c2, hj, rfl, ho⟩
    dsimp only
    by_cases hlt : j < m
    · refine splitW_t (decide_eq_true (by omega)) ?_
      have hcut5 := hcut.ext e6
      refine guard_i ⟨by omega, by omega⟩ ?_
      obtain ⟨a, ha, hcell⟩ := hcut5.2.2 (by omega)
      refine ⟨a, ha, ?_⟩
      rw [Int.toNat_natCast, Nat.mul_one]
      refine ld_i (x := ((cs.getD j 0 : Nat) : Int)) (hcell j _ (uV_get (by omega))) ?_
      have hx : cs.getD j 0 < 65536 := by
        rw [List.getD_eq_getElem?_getD, List.getElem?_eq_getElem (by omega)]
        exact hcs _ (List.getElem_mem _)
      rw [wrap_u64_nat (by omega)]
      refine callW_of (octput_calls (k := 2) ho e6.size (by omega) (by omega) (by omega) (by omega)) ?_
      rintro _ w6 ⟨x, rfl, ho6, hg6⟩
      refine ⟨x, rfl, ?_⟩
      rw [wrap_i64 (by omega) (by omega)]
      have hlen : x.2.1 = 2 * (j + 1) := by
        have := ho6.sl.blen
        rw [List.length_append, le_length] at this
        have := ho.sl.blen
        omega
      obtain ⟨x1, x2, x3⟩ := x
      dsimp only at hlen ho6 hg6 ⊢
      subst hlen
      refine ⟨⟨e6.grown hg6.grown ho.row', j + 1, x1, x3, by omega, rfl, ?_⟩, by omega⟩
      have e : (cs.take (j + 1)).flatMap (le 2) = (cs.take j).flatMap (le 2) ++ le 2 (cs.getD j 0) := by
        rw [List.take_succ_eq_append_getElem (by omega), List.flatMap_append, List.getD_eq_getElem?_getD, List.getElem?_eq_getElem (by omega)]
        simp
      rw [e]
      exact ho6
    · obtain rfl : j = m := by omega
      refine splitW_f (decide_eq_false (by omega)) ?_
      rw [List.take_of_length_le (by omega), ← hpage] at ho
      refine ldW_blk (x := (A, i, c)) (e4.ext e6) (by rfl) ?_
      dsimp only
      refine conv_str (e := 5) (by kernel_rfl) (by kernel_rfl) (by kernel_rfl) ho.sl ?_
      have hii : i ≤ 4096 := by
        have : i * 1 ≤ i * per := Nat.mul_le_mul_left _ (by omega)
        omega
      refine append_newi (E := strE) (ys := [(⟨(pageB l per i).toArray⟩ : ByteArray)]) (by rfl) rfl elem_strK (e5.ext e6) (by have := e6.size; omega) (by omega) (by omega) ?_
      intro A3 c3 w6 ho3 hg3
      have e46 : Blk w6 r1 [.slice A i c] 85 := (e4.ext e6).grown hg3.grown (by intro hh; have := e5.row _ hh.symm; omega)
      refine stW_blk e46 (by simp) ?_
      have hset := e46.set 0 (.slice A3 (i + 1) c3)
      have e7 := e1.trans e6
      have e8 : Ext w w6 := e7.grown hg3.grown (fun j hj => by have := e5.row j hj; omega)
      have hx6 : ∀ k, k < w4.heap.size + 2 → w6.heap[k]? = w'.heap[k]? := fun k hk => by
        rw [hg3.grown.block k (by have := e6.size; omega) (fun hh => by have := e5.row _ hh.symm; omega)]
        exact e6.block k (by omega)
      refine hN _ ⟨e8.set (by simp only; omega) _, ⟨?_, ?_⟩, A3, c3, hset, ?_⟩ ?_ ?_
      · exact Blk.other (show Blk w6 _ _ _ from (hx6 _ (by omega)).trans e2) (by simp only; omega) _
      · exact Blk.other (show Blk w6 _ _ _ from (hx6 _ (by omega)).trans e3) (by simp only; omega) _
      · have e9 : (pagesL l per).take (i + 1) = (pagesL l per).take i ++ [(⟨(pageB l per i).toArray⟩ : ByteArray)] := by
          rw [List.take_succ_eq_append_getElem (by simpa [pagesL] using hi)]
          simp [pagesL]
        rw [e9]
        refine ho3.grown (row := some r1) ⟨rfl, rfl, rfl, by simp, fun k hk hne => Below.heap_setCell _ _ _ _ (fun e => hne (by rw [e]))⟩ (fun j hj he => ?_)
        injection hj with hj
        have := ho3.row _ he
        omega
      · have := hg3.grown.size
        have := e6.size
        simp
        omega
      · intro k hk
        rw [Below.heap_setCell _ _ _ _ (by simp only; omega)]
        exact hx6 k (by omega)
  · rintro w' ⟨e1, ⟨e2, e3⟩, A, c, e4, e5⟩ hsz' hd
    have elen : (pagesL l per).length = cutsN l.length per := by simp [pagesL]
    rw [cutsV_length] at e4 e5
    rw [List.take_of_length_le (by omega)] at e5
    show (ldW _ _ _) w'
    refine ldW_blk (x := (A, cutsN l.length per, c)) e4 (by rfl) ?_
    dsimp only
    refine stW_blk e4 (by simp) ?_
    have hset := e4.set 0 (.slice A (cutsN l.length per) c)
    refine leave_i (by rw [Below.heap_setCell _ _ _ _ (by simp only; omega)]; exact hd) ?_
    show (ldW _ _ _) _
    refine ldW_blk (x := (A, cutsN l.length per, c)) (show Blk _ r1 [.slice A (cutsN l.length per) c] 85 from (setO_other (by omega)).trans hset) (by rfl) ?_
    refine ⟨(A, cutsN l.length per, c), rfl, ?_, (e1.set (by simp only; omega) _).setO (by omega) _⟩
    have e6 := e5.grown (w' := w'.setCell ⟨r1, 0, none⟩ (.slice A (cutsN l.length per) c)) (row := some r1) ⟨rfl, rfl, rfl, by simp, fun k hk hne => Below.heap_setCell _ _ _ _ (fun e => hne (by rw [e]))⟩ (fun j hj he => by
      injection hj with hj
      have := e5.row _ he
      omega)
    have e7 : Owni strE 9 (setO (w'.setCell ⟨r1, 0, none⟩ (.slice A (cutsN l.length per) c)) w4.heap.size (.deferred none)) (w4.heap.size + 2) A (cutsN l.length per) c (pagesL l per) :=
      e6.sameBut (sameBut_setO (b := w4.heap.size) (.inl rfl)) (by omega) (by omega)
    exact e7.lower (by omega)
end Go.Proofs.YtjdmggaeagnolaaGreatDoor.V
/- Pages of counts, read again: plain. -/
namespace Go.Proofs.YtjdmggaeagnolaaGreatDoor.V
open Go
def wB (bs : List UInt8) : List Nat := (List.range (bs.length / 2)).map fun k => lev ((bs.drop (2 * k)).take 2)
theorem wB_length (bs : List UInt8) : (wB bs).length = bs.length / 2 := by simp [wB]
theorem wB_get {bs : List UInt8} {k : Nat} (h : k < bs.length / 2) : (wB bs).getD k 0 = lev ((bs.drop (2 * k)).take 2) := by
  simp [wB, h]
theorem wB_lt (bs : List UInt8) : ∀ x ∈ wB bs, x < 65536 := by
  intro x hx
  obtain ⟨k, _, rfl⟩ := List.mem_map.1 hx
  have h := lev_lt ((bs.drop (2 * k)).take 2)
  have h2 : ((bs.drop (2 * k)).take 2).length ≤ 2 := by simp; omega
  have : 256 ^ ((bs.drop (2 * k)).take 2).length ≤ 256 ^ 2 := Nat.pow_le_pow_right (by omega) h2
  omega
def loadL (ps : List ByteArray) : List Nat := ps.flatMap fun p => wB (B p)
theorem loadL_lt (ps : List ByteArray) : ∀ x ∈ loadL ps, x < 65536 := by
  intro x hx
  obtain ⟨p, _, h⟩ := List.mem_flatMap.1 hx
  exact wB_lt _ x h
def sizes (xs : List ByteArray) : List Nat := xs.map fun s => s.size
def fitsP (n per : Nat) (ps : List ByteArray) : Prop := sizes ps = (List.range (cutsN n per)).map fun i => 2 * min per (n - i * per)
instance (n per : Nat) (ps : List ByteArray) : Decidable (fitsP n per ps) := inferInstanceAs (Decidable (_ = _))
theorem fitsP_len {n per : Nat} {ps : List ByteArray} (h : fitsP n per ps) : ps.length = cutsN n per := by
  have := congrArg List.length h
  simpa [sizes] using this
theorem fitsP_size {n per i : Nat} {ps : List ByteArray} (h : fitsP n per ps) (hi : i < ps.length) : (B ps[i]).length = 2 * min per (n - i * per) := by
  have h2 := fitsP_len h
  have := congrArg (fun l => l[i]?) h
  simp only [sizes, List.getElem?_map, List.getElem?_eq_getElem hi, Option.map_some, List.getElem?_range (by omega : i < cutsN n per)] at this
  injection this with this
theorem sum_cuts (n per : Nat) : ∀ m, ((List.range m).map fun i => min per (n - i * per)).sum = min n (m * per)
  | 0 => by simp
  | m + 1 => by
    rw [List.range_succ, List.map_append, List.sum_append, sum_cuts n per m, Nat.succ_mul]
    simp only [List.map_cons, List.map_nil, List.sum_cons, List.sum_nil]
    omega
theorem part_length {n per : Nat} {ps : List ByteArray} (h : fitsP n per ps) (i : Nat) (hi : i ≤ ps.length) : (loadL (ps.take i)).length = min n (i * per) := by
  unfold loadL
  rw [List.length_flatMap, ← sum_cuts n per i]
  congr 1
  apply List.ext_getElem
  · simp; omega
  · intro j h1 h2
    have hj : j < ps.length := by simp at h1; omega
    simp only [List.getElem_map, List.getElem_take, List.getElem_range, wB_length, fitsP_size h hj]
    omega
theorem loadL_length {n per : Nat} {ps : List ByteArray} (hp : 1 ≤ per) (h : fitsP n per ps) : (loadL ps).length = n := by
  have := part_length h ps.length (Nat.le_refl _)
  rw [List.take_length] at this
  rw [this, fitsP_len h]
  have := mt (cutsN_lt (n := n) (i := cutsN n per) hp).2 (by omega)
  omega
theorem loadL_split (ps : List ByteArray) {i : Nat} (hi : i < ps.length) : loadL ps = loadL (ps.take i) ++ (wB (B ps[i]) ++ loadL (ps.drop (i + 1))) := by
  unfold loadL
  have e : wB (B ps[i]) ++ (ps.drop (i + 1)).flatMap (fun p => wB (B p)) = (ps.drop i).flatMap (fun p => wB (B p)) := by
    rw [List.drop_eq_getElem_cons hi, List.flatMap_cons]
  rw [e, ← List.flatMap_append, List.take_append_drop]
theorem loadL_get {ps : List ByteArray} {i k : Nat} (hi : i < ps.length) (hk : k < (B ps[i]).length / 2) : (loadL ps).getD ((loadL (ps.take i)).length + k) 0 = lev (((B ps[i]).drop (2 * k)).take 2) := by
  rw [loadL_split ps hi, List.getD_eq_getElem?_getD, List.getElem?_append_right (by omega), Nat.add_sub_cancel_left, List.getElem?_append_left (by rw [wB_length]; exact hk), ← List.getD_eq_getElem?_getD, wB_get hk]
theorem part_succ {ps : List ByteArray} {i : Nat} (hi : i < ps.length) : (loadL (ps.take (i + 1))).length = (loadL (ps.take i)).length + (B ps[i]).length / 2 := by
  rw [List.take_succ_eq_append_getElem hi]
  unfold loadL
  rw [List.flatMap_append, List.length_append]
  simp [wB_length]
def merge (D N : List Nat) (m : Nat) : List Nat := D.take m ++ N.drop m
theorem merge_length {D N : List Nat} (h : D.length = N.length) (m : Nat) : (merge D N m).length = N.length := by
  simp [merge]; omega
theorem merge_zero (D N : List Nat) : merge D N 0 = N := by simp [merge]
theorem merge_full {D N : List Nat} (h : D.length = N.length) : merge D N D.length = D := by simp [merge, ← h]
theorem merge_set {D N : List Nat} {m : Nat} (h : m < N.length) (hm : m < D.length) : (merge D N m).set m (D.getD m 0) = merge D N (m + 1) := by
  unfold merge
  rw [List.set_append_right _ _ (by simp; omega), List.take_succ_eq_append_getElem hm, List.append_assoc]
  congr 1
  have : m - (D.take m).length = 0 := by simp; omega
  rw [this, List.drop_eq_getElem_cons (i := m) (by omega), List.set_cons_zero, List.getD_eq_getElem?_getD, List.getElem?_eq_getElem hm]
  rfl
theorem flat2_length : ∀ cs : List Nat, (cs.flatMap (le 2)).length = 2 * cs.length
  | [] => rfl
  | c :: r => by
    rw [List.flatMap_cons, List.length_append, flat2_length r, le_length, List.length_cons]
    omega
end Go.Proofs.YtjdmggaeagnolaaGreatDoor.V
/- Contracts of counts.Load and of the reference's counts. -/
namespace Go.Proofs.YtjdmggaeagnolaaGreatDoor.V
open Go Go.Proofs Go.RowKit
theorem tdiv2 (a b : Nat) : Int.tdiv (a : Int) (b : Int) = ((a / b : Nat) : Int) := rfl
theorem room_per {size : Int} (hs : geoOK size 8 = true) : roomOf size = ((2 * perOf size : Nat) : Int) := by
  unfold perOf roomOf
  rw [if_pos hs]
  unfold geoOK at hs
  have hs := of_decide_eq_true hs
  have e : Int.tdiv (size - 16) 2 = (size - 16) / 2 := Int.tdiv_eq_ediv_of_nonneg (by omega)
  have e2 : Int.tmod size 64 = size % 64 := Int.tmod_eq_emod_of_nonneg (by omega)
  rw [e]
  omega
theorem geo8 {size blocks : Int} (h : geoOK size blocks = true) : geoOK size 8 = true ∧ ∃ n : Nat, blocks = n ∧ 8 ≤ n ∧ n ≤ 4096 := by
  unfold geoOK at h ⊢
  have h := of_decide_eq_true h
  exact ⟨decide_eq_true (by omega), blocks.toNat, by omega⟩
def spages (size blocks : Int) : Int := if geoOK size blocks then ((cutsN blocks.toNat (perOf size) : Nat) : Int) else 0
theorem spages_calls (w : World) (size blocks : Int) : Calls Tryz.prog 71 #[.agg #[.int .i64 size, .int .i64 blocks]] w (Ret fun v w' => v = .int .i64 (spages size blocks) ∧ Ext w w') := by
  apply calls71
  unfold S71 spages
  apply newW_i
  have hb : Blk (w.alloc (.cells #[(.int .i64 size), (.int .i64 blocks)] 23)) w.heap.size [(.int .i64 size), (.int .i64 blocks)] 23 := Blk.new w _ _
  have he : Ext w (w.alloc (.cells #[(.int .i64 size), (.int .i64 blocks)] 23)) := (Ext.refl w).alloc _
  generalize w.alloc (.cells #[(.int .i64 size), (.int .i64 blocks)] 23) = w1 at hb he ⊢
  refine ldA_blk (ls := [(.int .i64), (.int .i64)]) (x := (size, blocks, ())) hb rfl ?_
  refine callW_of (devcheck_calls w1 size blocks) ?_
  rintro _ w2 ⟨rfl, he2⟩
  refine ⟨_, rfl, ?_⟩
  have he02 := he.trans he2
  have hb2 := hb.ext he2
  cases hok : geoOK size blocks with
  | false => rw [if_neg (by simp), if_neg (by simp)]; exact splitW_t (by rfl) ⟨rfl, he02⟩
  | true =>
    rw [if_pos rfl, if_pos rfl]
    refine splitW_f (by rfl) ?_
    obtain ⟨h8, n, rfl, hn1, hn2⟩ := geo8 hok
    refine ldW_blk (x := size) hb2 (by rfl) ?_
    refine callW_of (room_calls w2 size) ?_
    rintro _ w3 ⟨rfl, he3⟩
    refine ⟨_, rfl, ?_⟩
    refine ld_blk (o := 1) (x := (n : Int)) (hb2.ext he3) (by rfl) ?_
    obtain ⟨hp1, hp2, _⟩ := perOf_spec h8
    rw [room_per h8, Int.toNat_natCast]
    generalize perOf size = per at hp1 hp2 ⊢
    refine guard_i (by omega) ⟨?_, he02.trans he3⟩
    rw [wrap_i64 (x := (2 : Int) * (n : Int)) (by omega) (by omega), wrap_i64 (x := (2 : Int) * (n : Int) + ((2 * per : Nat) : Int)) (by omega) (by omega), wrap_i64 (x := (2 : Int) * (n : Int) + ((2 * per : Nat) : Int) - 1) (by omega) (by omega)]
    rw [show (2 : Int) * (n : Int) + ((2 * per : Nat) : Int) - 1 = ((2 * n + 2 * per - 1 : Nat) : Int) by omega, tdiv2]
    have e : (2 * n + 2 * per - 1) / (2 * per) = cutsN n per := by
      unfold cutsN
      rw [← Nat.div_div_eq_div_mul]
      congr 1
      omega
    rw [e]
    have : cutsN n per ≤ n := by
      unfold cutsN
      rw [Nat.div_le_iff_le_mul_add_pred (by omega)]
      have : 1 * n ≤ per * n := Nat.mul_le_mul_right _ (by omega)
      omega
    rw [wrap_i64 (by omega) (by omega)]
theorem sizes_get {xs : List ByteArray} {i : Nat} (h : i < xs.length) : (sizes xs)[i]? = some (xs.getD i ByteArray.empty).size := by
  simp [sizes, h]
theorem eqfunc_calls {w : World} {A A2 : Option Addr} {n c n2 c2 : Nat} {xs ys : List ByteArray} (h : Sli strE w A n xs) (h2 : Sli strE w A2 n2 ys) : Calls Tryz.prog 72 #[.slice A n c, .slice A2 n2 c2, .func (.func 70) #[] #[]] w (Ret fun v w' => v = .bool (decide (sizes xs = sizes ys)) ∧ w' = w) := by
  apply calls72
  unfold S72
  have hl := h.len
  have hl2 := h2.len
  have hle := h.2.1
  have hsl : ∀ l : List ByteArray, (sizes l).length = l.length := fun l => by simp [sizes]
  refine splitW_i (fun hne => ⟨?_, rfl⟩) (fun he => ?_)
  · have hne := bne_iff_ne.1 hne
    congr 1
    symm
    rw [decide_eq_false_iff_not]
    intro e
    have := congrArg List.length e
    rw [hsl, hsl] at this
    omega
  have he := bne_eq_false_iff_eq.1 he
  obtain rfl : n = n2 := by omega
  refine loopW_i (fun y w' => w' = w ∧ ∃ i : Nat, i ≤ n ∧ y = ((i : Int), ()) ∧ ∀ j, j < i → (sizes xs)[j]? = (sizes ys)[j]?) (fun y => (n - y.1).toNat) ⟨rfl, 0, by omega, rfl, fun j hj => by omega⟩ ?_
  rintro _ w1 ⟨hw, i, hi, rfl, hall⟩
  subst hw
  dsimp only
  by_cases hlt : i < n
  · refine splitW_t (decide_eq_true (by omega)) ?_
    refine idx_str h (by omega) (by omega) ?_
    refine idx_str h2 (by omega) (by omega) ?_
    rw [Int.toNat_natCast]
    refine callVW_fn (by kernel_rfl) ?_
    refine callW_of (calls70 (xs.getD i ByteArray.empty) (ys.getD i ByteArray.empty) (K := fun v w' => v = .bool ((((xs.getD i ByteArray.empty).size : Nat) : Int) == (((ys.getD i ByteArray.empty).size : Nat) : Int)) ∧ w' = w1) (by unfold S70; exact ⟨rfl, rfl⟩)) ?_
    rintro _ _ ⟨rfl, hw⟩
    subst hw
    refine ⟨_, rfl, ?_⟩
    rw [wrap_i64 (by omega) (by omega)]
    refine splitW_i (fun hn => ⟨?_, rfl⟩) (fun hn => ?_)
    · congr 1
      symm
      rw [decide_eq_false_iff_not]
      intro e
      have := congrArg (fun l => l[i]?) e
      rw [sizes_get (by omega), sizes_get (by omega)] at this
      injection this with this
      rw [this] at hn
      simp at hn
    · refine ⟨⟨rfl, i + 1, by omega, rfl, fun j hj => ?_⟩, by omega⟩
      by_cases hji : j = i
      · subst hji
        rw [sizes_get (by omega), sizes_get (by omega)]
        have : ((((xs.getD j ByteArray.empty).size : Nat) : Int) == (((ys.getD j ByteArray.empty).size : Nat) : Int)) = true := by simpa using hn
        have := beq_iff_eq.1 this
        congr 1
        omega
      · exact hall j (by omega)
  · obtain rfl : i = n := by omega
    refine splitW_f (decide_eq_false (by omega)) ⟨?_, rfl⟩
    congr 1
    symm
    rw [decide_eq_true_iff]
    apply List.ext_getElem?
    intro j
    rcases Nat.lt_or_ge j i with hj | hj
    · exact hall j hj
    · rw [List.getElem?_eq_none (by rw [hsl]; omega), List.getElem?_eq_none (by rw [hsl]; omega)]
end Go.Proofs.YtjdmggaeagnolaaGreatDoor.V
