/- Contracts of the package value: Compare, Rows, Key. -/
import Derived.Test.YtlpniinmomhkcaaDoorVal
import Derived.Test.YtlpniinmomhkcaaDoorHH
import Derived.Test.YtlpniinmomhkcaaDoorHS
import Derived.Test.YtlpniinmomhkcaaDoorKKit
import Derived.Test.YtlpniinmomhkcaaDoorShelf
set_option linter.unusedVariables false
set_option linter.unusedSimpArgs false
namespace Go.Proofs.YtlpniinmomhkcaaDoor.V
open Go Go.Proofs Go.RowKit

theorem cells_ls (c : Cell) : LT.vals [.int .i64, .int .i64, .str] (cT c) = cellE.f c := rfl
theorem blkC {w : World} {b : Nat} {cs : Array Value} {c : Cell} {t : TypeId} (h : Blk w b cs.toList t) (e : cs.toList = cellE.f c) : Blk w b (cellE.f c) t := by rw [← e]; exact h
theorem compareBytes_eq : ∀ a b : List UInt8, Lib.compareBytes a b = cmpL a b
  | [], [] => rfl
  | [], _ :: _ => rfl
  | _ :: _, [] => rfl
  | a :: r, b :: s => by
    rw [Lib.compareBytes, cmpL, compareBytes_eq r s]
    rfl
theorem nan_calls (w : World) (x : Int) : Calls Tryd.prog 50 #[.int .i64 x] w (Ret fun v w' => v = .bool false ∧ w' = w) := by
  apply calls50
  unfold S50
  exact ⟨congrArg Value.bool (bne_eq_false_iff_eq.2 rfl), rfl⟩
theorem cmpint_calls (w : World) (x y : Int) : Calls Tryd.prog 34 #[.int .i64 x, .int .i64 y] w (Ret fun v w' => v = .int .i64 (cmpI x y) ∧ w' = w) := by
  apply calls34
  unfold S34 cmpI
  refine callW_of (nan_calls w x) ?_
  rintro _ w1 ⟨rfl, rfl⟩
  refine ⟨_, rfl, ?_⟩
  refine callW_of (nan_calls w1 y) ?_
  rintro _ w2 ⟨rfl, rfl⟩
  refine ⟨_, rfl, splitW_f (by rfl) (splitW_f (by rfl) (splitW_i (fun h => ?_) (fun h => splitW_i (fun h2 => ?_) (fun h2 => ?_))))⟩
  · rw [if_pos (of_decide_eq_true h)]; exact ⟨rfl, rfl⟩
  · have := of_decide_eq_true h2
    rw [if_neg (of_decide_eq_false h), if_pos (by omega)]; exact ⟨rfl, rfl⟩
  · have := of_decide_eq_false h2
    rw [if_neg (of_decide_eq_false h), if_neg (by omega)]; exact ⟨rfl, rfl⟩
theorem nan64_calls (w : World) (x : Int) : Calls Tryd.prog 51 #[.int .i64 x] w (Ret fun v w' => v = .bool false ∧ w' = w) := by
  apply calls51
  unfold S51
  exact ⟨congrArg Value.bool (bne_eq_false_iff_eq.2 rfl), rfl⟩
theorem cmp64_calls (w : World) (x y : Int) : Calls Tryd.prog 35 #[.int .i64 x, .int .i64 y] w (Ret fun v w' => v = .int .i64 (cmpI x y) ∧ w' = w) := by
  apply calls35
  unfold S35 cmpI
  refine callW_of (nan64_calls w x) ?_
  rintro _ w1 ⟨rfl, rfl⟩
  refine ⟨_, rfl, ?_⟩
  refine callW_of (nan64_calls w1 y) ?_
  rintro _ w2 ⟨rfl, rfl⟩
  refine ⟨_, rfl, splitW_f (by rfl) (splitW_f (by rfl) (splitW_i (fun h => ?_) (fun h => splitW_i (fun h2 => ?_) (fun h2 => ?_))))⟩
  · rw [if_pos (of_decide_eq_true h)]; exact ⟨rfl, rfl⟩
  · have := of_decide_eq_true h2
    rw [if_neg (of_decide_eq_false h), if_pos (by omega)]; exact ⟨rfl, rfl⟩
  · have := of_decide_eq_false h2
    rw [if_neg (of_decide_eq_false h), if_neg (by omega)]; exact ⟨rfl, rfl⟩
theorem cmpstr_calls (w : World) (a b : ByteArray) : Calls Tryd.prog 36 #[.string a, .string b] w (Ret fun v w' => v = .int .i64 (cmpL (B a) (B b)) ∧ w' = w) :=
  (Tryd.strings_Compare a b w).mono (by rintro e w' ⟨rfl, h⟩; exact ⟨by rw [compareBytes_eq]; rfl, h⟩)
/-- The first of three that tells. -/
theorem or3_calls {w : World} {A : Option Addr} {c : Nat} {a b d : Int} (h : Sli intE w A 3 [a, b, d]) : Calls Tryd.prog 33 #[.slice A 3 c] w (Ret fun v w' => v = .int .i64 (orI a (orI b d)) ∧ w' = w) := by
  apply calls33
  unfold S33
  refine loopW_i (fun y w' => w' = w ∧ ∃ i : Nat, i ≤ 3 ∧ y = ((i : Int), ()) ∧ (1 ≤ i → a = 0) ∧ (2 ≤ i → b = 0) ∧ (3 ≤ i → d = 0)) (fun y => (3 - y.1).toNat) ⟨rfl, 0, by omega, rfl, by omega, by omega, by omega⟩ ?_
  rintro _ w1 ⟨hw, i, hi, rfl, ha, hb, hd⟩
  subst hw
  dsimp only
  by_cases hlt : i < 3
  · refine splitW_t (decide_eq_true (by omega)) ?_
    refine idx_int h (by omega) (by omega) ?_
    rw [Int.toNat_natCast]
    have hcase : i = 0 ∨ i = 1 ∨ i = 2 := by omega
    have hg : [a, b, d].getD i 0 ≠ 0 → orI a (orI b d) = [a, b, d].getD i 0 := by
      rcases hcase with rfl | rfl | rfl
      · intro h0; unfold orI; exact if_neg h0
      · intro h0
        rw [ha (by omega), orI_z]
        unfold orI; exact if_neg h0
      · intro h0
        rw [ha (by omega), hb (by omega), orI_z, orI_z]
        rfl
    refine splitW_i (fun hz => ?_) (fun hz => ?_)
    · rw [hg (bne_iff_ne.1 hz)]
      exact ⟨rfl, rfl⟩
    · have hz := bne_eq_false_iff_eq.1 hz
      rw [wrap_i64 (by omega) (by omega)]
      refine ⟨⟨rfl, i + 1, by omega, rfl, fun hh => ?_, fun hh => ?_, fun hh => ?_⟩, by omega⟩
      · rcases hcase with rfl | rfl | rfl
        · exact hz
        · exact ha (by omega)
        · exact ha (by omega)
      · rcases hcase with rfl | rfl | rfl
        · omega
        · exact hz
        · exact hb (by omega)
      · rcases hcase with rfl | rfl | rfl
        · omega
        · omega
        · exact hz
  · obtain rfl : i = 3 := by omega
    refine splitW_f (by rfl) ?_
    rw [ha (by omega), hb (by omega), hd (by omega)]
    exact ⟨rfl, rfl⟩
theorem vcmp_calls (w : World) (a b : Cell) : Calls Tryd.prog 10 #[.agg #[.int .i64 a.1, .int .i64 a.2.1, .string a.2.2], .agg #[.int .i64 b.1, .int .i64 b.2.1, .string b.2.2]] w (Ret fun v w' => v = .int .i64 (cmpC a b) ∧ Ext w w') := by
  apply calls10
  unfold S10
  refine new_i fun r1 w1 hb1 he1 _ _ => ?_
  refine new_i fun r2 w2 hb2 he2 _ _ => ?_
  refine draw_i fun w3 he3 _ _ => ?_
  have hb1 : Blk w3 r1 (cellE.f a) 23 := (hb1.ext he2).ext he3
  have hb2 : Blk w3 r2 (cellE.f b) 23 := hb2.ext he3
  refine box0 a.1 hb1 (by rfl) (box0 b.1 hb2 (by rfl) (boxF 1 a.2.1 hb1 (by rfl) (boxF 1 b.2.1 hb2 (by rfl) (boxF 2 a.2.2 hb1 (by rfl) (boxF 2 b.2.2 hb2 (by rfl) ?_)))))
  refine callW_of (cmpint_calls w3 a.1 b.1) ?_
  rintro _ w4 ⟨rfl, hw⟩
  obtain rfl : w3 = w4 := hw.symm
  refine ⟨_, rfl, heldc (held1F hb2 (by rfl)) (heldc (held1F hb1 (by rfl)) (heldc (held1F hb2 (by rfl)) (heldc (held1F hb1 (by rfl)) (held0 ?_))))⟩
  refine callW_of (cmp64_calls w3 a.2.1 b.2.1) ?_
  rintro _ w4 ⟨rfl, hw⟩
  obtain rfl : w3 = w4 := hw.symm
  refine ⟨_, rfl, heldc (held1F hb2 (by rfl)) (heldc (held1F hb1 (by rfl)) (held0 ?_))⟩
  refine callW_of (cmpstr_calls w3 a.2.2 b.2.2) ?_
  rintro _ w4 ⟨rfl, hw⟩
  obtain rfl : w3 = w4 := hw.symm
  refine ⟨_, rfl, ?_⟩
  refine new_i fun r12 w4 hb12 he4 _ _ => ?_
  refine callW_of (or3_calls (Sli.of_blk (E := intE) (xs := [cmpI a.1 b.1, cmpI a.2.1 b.2.1, cmpL (B a.2.2) (B b.2.2)]) hb12 rfl (by omega))) ?_
  rintro _ w5 ⟨rfl, hw⟩
  obtain rfl : w4 = w5 := hw.symm
  exact ⟨_, rfl, rfl, ((he1.trans he2).trans he3).trans he4⟩
theorem cmpR_drop : ∀ {a b : List Cell} {i : Nat}, (∀ j, j < i → cmpC (a.getD j cell0) (b.getD j cell0) = 0) → i ≤ a.length → i ≤ b.length → cmpR a b = cmpR (a.drop i) (b.drop i)
  | a, b, 0, _, _, _ => by simp
  | [], _, i + 1, _, h, _ => by simp at h
  | _ :: _, [], i + 1, _, _, h => by simp at h
  | x :: r, y :: s, i + 1, h, h1, h2 => by
    have h0 := h 0 (by omega)
    rw [cmpR, show cmpC x y = 0 from h0, orI_z]
    exact cmpR_drop (fun j hj => h (j + 1) (by omega)) (by simpa using h1) (by simpa using h2)
theorem vrows_calls {w : World} {A1 A2 : Option Addr} {n1 n2 c1 c2 : Nat} {a b : List Cell} (ha : Sli cellE w A1 n1 a) (hb : Sli cellE w A2 n2 b) :
    Calls Tryd.prog 11 #[.slice A1 n1 c1, .slice A2 n2 c2] w (Ret fun v w' => v = .int .i64 (cmpR a b) ∧ Ext w w') := by
  apply calls11
  unfold S11
  have hla := ha.len
  have hlb := hb.len
  have hle := ha.le
  have hle2 := hb.le
  refine callW_of (R := fun v w' => v = .int .i64 (cmpR a b) ∧ Ext w w') ?_ (by rintro _ w1 ⟨rfl, he⟩; exact ⟨_, rfl, rfl, he⟩)
  apply calls37
  unfold S37
  refine loopW_i (fun y w' => ∃ i : Nat, i ≤ n1 ∧ i ≤ n2 ∧ y = ((i : Int), ()) ∧ Ext w w' ∧ ∀ j, j < i → cmpC (a.getD j cell0) (b.getD j cell0) = 0) (fun y => (n1 - y.1).toNat) ⟨0, by omega, by omega, rfl, Ext.refl w, fun j hj => by omega⟩ ?_
  rintro _ w1 ⟨i, hi1, hi2, rfl, he1, hz⟩
  dsimp only
  have hdrop := cmpR_drop hz (by omega) (by omega)
  by_cases h1 : i < n1
  · refine splitW_t (decide_eq_true (by omega)) ?_
    refine idx_A (ls := [.int .i64, .int .i64, .str]) cT cell0 (ha.ext he1) (fun _ => rfl) rfl (by omega) (by omega) ?_
    rw [Int.toNat_natCast]
    have ea : a.drop i = a.getD i cell0 :: a.drop (i + 1) := by rw [List.getD_eq_getElem?_getD, List.getElem?_eq_getElem (by omega), Option.getD_some, ← List.drop_eq_getElem_cons (by omega)]
    generalize hca : a.getD i cell0 = ca at ea
    refine box_i (vs := cellE.f ca) (by rfl) (cellE.one ca) ?_ (by rfl)
    intro r5 w2 hb5 he2 _
    by_cases h2 : i < n2
    · refine splitW_f (decide_eq_false (by omega)) ?_
      have hx2 := he1.trans he2
      refine idx_A (ls := [.int .i64, .int .i64, .str]) cT cell0 (hb.ext hx2) (fun _ => rfl) rfl (by omega) (by omega) ?_
      rw [Int.toNat_natCast]
      have eb : b.drop i = b.getD i cell0 :: b.drop (i + 1) := by rw [List.getD_eq_getElem?_getD, List.getElem?_eq_getElem (by omega), Option.getD_some, ← List.drop_eq_getElem_cons (by omega)]
      generalize hcb : b.getD i cell0 = cb at eb
      refine box_i (vs := cellE.f cb) (by rfl) (cellE.one cb) ?_ (by rfl)
      intro r8 w3 hb8 he3 _
      have hx3 := hx2.trans he3
      refine boxA (ls := [.int .i64, .int .i64, .str]) (cT ca) (hb5.ext he3) rfl (boxA (ls := [.int .i64, .int .i64, .str]) (cT cb) hb8 rfl ?_)
      refine callVW_fn (by kernel_rfl) ?_
      refine callW_of (vcmp_calls w3 ca cb) ?_
      rintro _ w4 ⟨rfl, he4⟩
      have hx4 := hx3.trans he4
      have hc : cmpR a b = orI (cmpC ca cb) (cmpR (a.drop (i + 1)) (b.drop (i + 1))) := by rw [hdrop, ea, eb]; rfl
      refine ⟨_, rfl, splitW_i (fun hne => ?_) (fun hne => ?_)⟩
      · refine ⟨?_, hx4⟩
        rw [hc]
        unfold orI
        rw [if_neg (bne_iff_ne.1 hne)]
      · have hne := bne_eq_false_iff_eq.1 hne
        rw [wrap_i64 (by omega) (by omega)]
        refine ⟨⟨i + 1, h1, h2, rfl, hx4, fun j hj => ?_⟩, by omega⟩
        by_cases hji : j = i
        · subst hji; rw [hca, hcb]; exact hne
        · exact hz j (by omega)
    · refine splitW_t (decide_eq_true (by omega)) ⟨?_, he1.trans he2⟩
      rw [hdrop, ea, List.drop_of_length_le (l := b) (by omega)]
      rfl
  · refine splitW_f (decide_eq_false (by omega)) ?_
    have ea : a.drop i = [] := List.drop_of_length_le (by omega)
    by_cases h2 : i < n2
    · refine splitW_t (decide_eq_true (by omega)) ⟨?_, he1⟩
      have eb : b.drop i = b.getD i cell0 :: b.drop (i + 1) := by rw [List.getD_eq_getElem?_getD, List.getElem?_eq_getElem (by omega), Option.getD_some, ← List.drop_eq_getElem_cons (by omega)]
      rw [hdrop, ea, eb]
      rfl
    · refine splitW_f (decide_eq_false (by omega)) ⟨?_, he1⟩
      rw [hdrop, ea, List.drop_of_length_le (l := b) (by omega)]
      rfl
end Go.Proofs.YtlpniinmomhkcaaDoor.V
