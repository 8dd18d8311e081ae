/- Contracts of the statements' own helpers, and of slices.Clone. -/
import Derived.Test.YtlpniinmomhkcaaDoorS
import Derived.Test.YtlpniinmomhkcaaDoorH3
import Derived.Test.YtlpniinmomhkcaaDoorNum2
set_option linter.unusedVariables false
set_option linter.unusedSimpArgs false
namespace Go.Proofs.YtlpniinmomhkcaaDoor.V
open Go Go.Proofs

theorem elem_u8 : Elem Tryd.prog 57 5 (.int .u8 0) 1 := by
  refine ⟨by kernel_rfl, by kernel_rfl, rfl⟩
/-- A slice of bytes of one's own comes back. -/
def Bytes (w : World) (bs : List UInt8) (v : Value) (w' : World) : Prop := ∃ x : Option Addr × Nat × Nat, v = .slice x.1 x.2.1 x.2.2 ∧ Own 5 w' w.heap.size x.1 x.2.1 x.2.2 (bV bs) ∧ Ext w w'
theorem bytes_ret {w w' : World} {bs : List UInt8} {A : Option Addr} {n c : Nat} (h : Own 5 w' w.heap.size A n c (bV bs)) (he : Ext w w') : Bytes w bs (.slice A n c) w' := ⟨(A, n, c), rfl, h, he⟩
/-- A slice's bytes, behind an empty row. -/
theorem own_of {w : World} {A : Option Addr} {n c : Nat} {bs : List UInt8} {K : Option Addr × Nat × Nat → WP} (h : Sl w A n (bV bs)) (hn : n ≤ 140737488355328)
    (hK : ∀ A' c' w', Own 5 w' w.heap.size A' n c' (bV bs) → Ext w w' → K (A', n, c') w') :
    (newW (.cells #[] 5) fun r => runW Tryd.prog (Builtin.append_ #[57, 57] 57 #[.slice (some (⟨r, 0, none⟩ : Addr)) 0 0, .slice A n c]) .slc K) w := by
  apply newW_i
  have ho : Own 5 (w.alloc (.cells #[] 5)) w.heap.size (some ⟨w.heap.size, 0, none⟩) 0 0 [] := Own.lit (cs := #[]) (Nat.le_refl _) (by simp)
  have he : Ext w (w.alloc (.cells #[] 5)) := (Ext.refl w).alloc _
  refine append_sl (c := 0) (n := 0) (m := n) elem_u8 ho he.size (h.ext he) (bV_one bs) (by omega) (by omega) ?_
  intro A' c' w' ho' hg _
  rw [List.nil_append, Nat.zero_add] at ho'
  rw [Nat.zero_add]
  exact hK A' c' w' ho' (he.grown hg.grown (ho.row'))

/-- A number brought below another one. -/
def pick (n m : Int) : Int := if m < 1 then 0 else n % m
theorem pick_calls (w : World) {n m : Int} (hn0 : -9223372036854775808 ≤ n) (hn1 : n < 9223372036854775808) (hm1 : m < 9223372036854775808) : Calls Tryd.prog 14 #[.int .i64 n, .int .i64 m] w (Ret fun v w' => v = .int .i64 (pick n m) ∧ w' = w) := by
  apply calls14
  unfold S14 pick
  refine splitW_i (fun h => ?_) (fun h => ?_)
  · rw [if_pos (of_decide_eq_true h)]
    exact ⟨rfl, rfl⟩
  · have hm : ¬ m < 1 := of_decide_eq_false h
    rw [if_neg hm]
    refine ⟨by omega, ?_⟩
    have e := @Int.tmod_eq_emod n m
    have h1 := Int.emod_nonneg n (show m ≠ 0 by omega)
    have h2 := Int.emod_lt_of_pos n (show 0 < m by omega)
    by_cases hneg : n.tmod m < 0
    · refine splitW_t (decide_eq_true hneg) ?_
      refine ⟨?_, rfl⟩
      have h3 : n.tmod m = n % m - m := by
        rw [e]
        split
        · rename_i h4
          have : n.tmod m = n % m := by rw [e, if_pos h4]; omega
          omega
        · omega
      rw [h3, wrap_i64 (by omega) (by omega)]
      congr 1
      omega
    · refine splitW_f (decide_eq_false hneg) ?_
      refine ⟨?_, rfl⟩
      congr 1
      rw [e]
      split
      · omega
      · rename_i h4
        have : n.tmod m = n % m - m := by rw [e, if_neg h4]; omega
        omega

end Go.Proofs.YtlpniinmomhkcaaDoor.V
