/- Geometries, rooms: contracts. -/
import Derived.Test.YtpbjbhcejgnhiaaDoorHX
import Derived.Test.YtpbjbhcejgnhiaaDoorS
import Derived.Test.YtpbjbhcejgnhiaaDoorNum2
set_option linter.unusedVariables false
set_option linter.unusedSimpArgs false
namespace Go.Proofs.YtpbjbhcejgnhiaaDoor.V
open Go Go.Proofs Go.RowKit

/-- A geometry that may be. -/
def geoOK (size blocks : Int) : Bool := decide (128 ≤ size ∧ size ≤ 4096 ∧ Int.tmod size 64 = 0 ∧ 8 ≤ blocks ∧ blocks ≤ 4096)
theorem devcheck_calls (w : World) (size blocks : Int) : Calls Tryd.prog 26 #[.agg #[.int .i64 size, .int .i64 blocks]] w (Ret fun v w' => v = .int .i64 (if geoOK size blocks then 0 else 2) ∧ Ext w w') := by
  apply calls26
  unfold S26
  apply newW_i
  have hb : Blk (w.alloc (.cells #[(.int .i64 size), (.int .i64 blocks)] 23)) w.heap.size [(.int .i64 size), (.int .i64 blocks)] 23 := Blk.new w _ _
  have he : Ext w (w.alloc (.cells #[(.int .i64 size), (.int .i64 blocks)] 23)) := (Ext.refl w).alloc _
  generalize w.alloc (.cells #[(.int .i64 size), (.int .i64 blocks)] 23) = w1 at hb he ⊢
  have bad : ¬ (128 ≤ size ∧ size ≤ 4096 ∧ Int.tmod size 64 = 0 ∧ 8 ≤ blocks ∧ blocks ≤ 4096) → (Value.int .i64 2 = .int .i64 (if geoOK size blocks then 0 else 2) ∧ Ext w w1) := fun h => by
    unfold geoOK
    rw [decide_eq_false h]
    exact ⟨rfl, he⟩
  refine ldW_blk hb (by rfl) ?_
  refine splitW_i (fun h => bad (by have := of_decide_eq_true h; omega)) (fun h1 => ?_)
  refine ldW_blk hb (by rfl) ?_
  refine splitW_i (fun h => bad (by have := of_decide_eq_true h; omega)) (fun h2 => ?_)
  refine ldW_blk hb (by rfl) ?_
  refine splitW_i (fun h => bad (by rw [bne_iff_ne] at h; exact fun hh => h hh.2.2.1)) (fun h3 => ?_)
  refine ld_blk (o := 1) hb (by rfl) ?_
  refine splitW_i (fun h => bad (by have := of_decide_eq_true h; omega)) (fun h4 => ?_)
  refine ld_blk (o := 1) hb (by rfl) ?_
  refine splitW_i (fun h => bad (by have := of_decide_eq_true h; omega)) (fun h5 => ?_)
  have h1 := of_decide_eq_false h1
  have h2 := of_decide_eq_false h2
  have h3 : Int.tmod size 64 = 0 := by simpa using h3
  have h4 := of_decide_eq_false h4
  have h5 := of_decide_eq_false h5
  unfold geoOK
  rw [decide_eq_true ⟨by omega, by omega, h3, by omega, by omega⟩]
  exact ⟨rfl, he⟩
/-- Room of a frame in a block of this size. -/
def roomOf (size : Int) : Int := if geoOK size 8 then size - 16 else 0
theorem refcheck_calls (w : World) (size blocks : Int) : Calls Tryd.prog 29 #[.agg #[.int .i64 size, .int .i64 blocks]] w (Ret fun v w' => v = .int .i64 (if geoOK size blocks then 0 else 2) ∧ Ext w w') := by
  apply calls29
  unfold S29
  apply newW_i
  have hb : Blk (w.alloc (.cells #[(.int .i64 size), (.int .i64 blocks)] 23)) w.heap.size [(.int .i64 size), (.int .i64 blocks)] 23 := Blk.new w _ _
  have he : Ext w (w.alloc (.cells #[(.int .i64 size), (.int .i64 blocks)] 23)) := (Ext.refl w).alloc _
  generalize w.alloc (.cells #[(.int .i64 size), (.int .i64 blocks)] 23) = w1 at hb he ⊢
  have hno : ¬ (128 ≤ size ∧ size ≤ 4096 ∧ Int.tmod size 64 = 0 ∧ 8 ≤ blocks ∧ blocks ≤ 4096) → (if geoOK size blocks then (0 : Int) else 2) = 2 := fun hp => by
    unfold geoOK
    rw [if_neg (by simpa only [decide_eq_true_eq] using hp)]
  refine ldW_blk hb (by rfl) ?_
  refine splitW_i (fun h => ?_) (fun h1 => ?_)
  · have h := of_decide_eq_true h
    exact ⟨by rw [hno (by omega)], he⟩
  refine ldW_blk hb (by rfl) ?_
  refine splitW_i (fun h => ?_) (fun h2 => ?_)
  · have h := of_decide_eq_true h
    exact ⟨by rw [hno (by omega)], he⟩
  refine ldW_blk hb (by rfl) ?_
  refine splitW_i (fun h => ?_) (fun h3 => ?_)
  · have h := bne_iff_ne.1 h
    exact ⟨by rw [hno (by omega)], he⟩
  refine ld_blk (o := 1) hb (by rfl) ?_
  refine splitW_i (fun h => ?_) (fun h4 => ?_)
  · have h := of_decide_eq_true h
    exact ⟨by rw [hno (by omega)], he⟩
  refine ld_blk (o := 1) hb (by rfl) ?_
  refine splitW_i (fun h => ?_) (fun h5 => ?_)
  · have h := of_decide_eq_true h
    exact ⟨by rw [hno (by omega)], he⟩
  have h1 := of_decide_eq_false h1
  have h2 := of_decide_eq_false h2
  have h3 := bne_eq_false_iff_eq.1 h3
  have h4 := of_decide_eq_false h4
  have h5 := of_decide_eq_false h5
  refine ⟨?_, he⟩
  unfold geoOK
  rw [if_pos (decide_eq_true (by omega))]
def lightGeo (size blocks : Int) : Bool := if size < 128 ∨ size > 4096 ∨ blocks < 8 ∨ blocks > 4096 then true else decide (size ≤ 512 ∧ blocks ≤ 40)
theorem lightgeo_calls (w : World) (size blocks : Int) : Calls Tryd.prog 11 #[.agg #[.int .i64 size, .int .i64 blocks]] w (Ret fun v w' => v = .bool (lightGeo size blocks) ∧ Ext w w') := by
  apply calls11
  unfold S11 lightGeo
  apply newW_i
  have hb : Blk (w.alloc (.cells #[(.int .i64 size), (.int .i64 blocks)] 23)) w.heap.size [(.int .i64 size), (.int .i64 blocks)] 23 := Blk.new w _ _
  have he : Ext w (w.alloc (.cells #[(.int .i64 size), (.int .i64 blocks)] 23)) := (Ext.refl w).alloc _
  generalize w.alloc (.cells #[(.int .i64 size), (.int .i64 blocks)] 23) = w1 at hb he ⊢
  refine ldW_blk hb (by rfl) ?_
  refine splitW_i (fun h => ?_) (fun h1 => ?_)
  · rw [if_pos (.inl (of_decide_eq_true h))]; exact ⟨rfl, he⟩
  refine ldW_blk hb (by rfl) ?_
  refine splitW_i (fun h => ?_) (fun h2 => ?_)
  · rw [if_pos (.inr (.inl (of_decide_eq_true h)))]; exact ⟨rfl, he⟩
  refine ld_blk (o := 1) hb (by rfl) ?_
  refine splitW_i (fun h => ?_) (fun h3 => ?_)
  · rw [if_pos (.inr (.inr (.inl (of_decide_eq_true h))))]; exact ⟨rfl, he⟩
  refine ld_blk (o := 1) hb (by rfl) ?_
  refine splitW_i (fun h => ?_) (fun h4 => ?_)
  · rw [if_pos (.inr (.inr (.inr (of_decide_eq_true h))))]; exact ⟨rfl, he⟩
  have h1 := of_decide_eq_false h1
  have h2 := of_decide_eq_false h2
  have h3 := of_decide_eq_false h3
  have h4 := of_decide_eq_false h4
  rw [if_neg (by omega)]
  refine ldW_blk hb (by rfl) ?_
  refine splitW_i (fun h => ?_) (fun h5 => ?_)
  · have h := of_decide_eq_true h
    refine ld_blk (o := 1) hb (by rfl) ?_
    refine ⟨?_, he⟩
    congr 1
    exact decide_eq_decide.2 (by omega)
  · have h5 := of_decide_eq_false h5
    refine ⟨?_, he⟩
    congr 1
    symm
    rw [decide_eq_false_iff_not]
    omega
end Go.Proofs.YtpbjbhcejgnhiaaDoor.V
