/- Contracts of octet.Reader. -/
import Derived.Test.YtiiemgndnpflbaaKIter
import Derived.Test.YtiiemgndnpflbaaHX
set_option linter.unusedVariables false
set_option linter.unusedSimpArgs false
namespace Go.Proofs.Ytiiemgndnpflbaa.V
open Go Go.Proofs Go.RowKit

theorem set_grown (w : World) (b o : Nat) (v : Value) : w.grownBy (w.setCell ⟨b, o, none⟩ v) (some b) := by
  refine ⟨rfl, rfl, rfl, by simp, fun k hk hne => Below.heap_setCell _ _ _ _ ?_⟩
  intro e
  exact hne (by rw [e])
/-- A reader, and the bytes that it has left. -/
def Rdr (w : World) (lo b : Nat) (bs : List UInt8) : Prop := ∃ (A : Option Addr) (n c : Nat) (t : TypeId), Blk w b [.slice A n c] t ∧ Sl w A n (bV bs) ∧ n ≤ c ∧ (∀ a, A = some a → lo ≤ a.block ∧ a.block < b) ∧ lo ≤ b
theorem Rdr.lt {w : World} {lo b : Nat} {bs : List UInt8} (h : Rdr w lo b bs) : b < w.heap.size := by
  obtain ⟨A, n, c, t, hb, _⟩ := h
  exact hb.lt
theorem Rdr.ext {w w' : World} {lo b : Nat} {bs : List UInt8} (h : Rdr w lo b bs) (he : Ext w w') : Rdr w' lo b bs := by
  obtain ⟨A, n, c, t, hb, hs, hc, ha, hlo⟩ := h
  exact ⟨A, n, c, t, hb.ext he, hs.ext he, hc, ha, hlo⟩
theorem Rdr.grown {w w' : World} {lo b : Nat} {bs : List UInt8} {row : Option Nat} (h : Rdr w lo b bs) (hg : w.grownBy w' row) (hr : ∀ j, row = some j → j < lo ∨ b < j) : Rdr w' lo b bs := by
  obtain ⟨A, n, c, t, hb, hs, hc, ha, hlo⟩ := h
  refine ⟨A, n, c, t, hb.grown hg ?_, hs.grown hg ?_, hc, ha, hlo⟩
  · intro e
    have := hr b e.symm
    omega
  · intro a e e2
    have := hr a.block e2.symm
    have := ha a e
    omega
/-- A number read. -/
def rd (bs : List UInt8) (k : Nat) : Nat × Int × List UInt8 := if bs.length < k then (0, 7, bs) else (lev (bs.take k), 0, bs.drop k)
theorem new_calls {w : World} {A : Option Addr} {n c : Nat} {bs : List UInt8} (h : Sl w A n (bV bs)) (hn : n ≤ 140737488355328) :
    Calls Try.prog 30 #[.slice A n c] w (Ret fun v w' => ∃ b, v = .pointer (some ⟨b, 0, none⟩) ∧ w.heap.size ≤ b ∧ Rdr w' w.heap.size b bs ∧ Ext w w') := by
  apply calls30
  unfold S30
  refine callW_of (clone_calls h hn) ?_
  rintro _ w1 ⟨⟨A1, n1, c1⟩, rfl, ho1, he1⟩
  refine ⟨(A1, n1, c1), rfl, ?_⟩
  refine new_i fun r2 w2 hb2 he2 hr2 _ => ?_
  have hsz := he1.size
  refine ⟨r2, rfl, by omega, ⟨A1, n1, c1, _, hb2, (ho1.ext he2).sl, ho1.le.1, fun a ha => ?_, by omega⟩, he1.trans he2⟩
  have hge := ho1.row a.block (by rw [orow_eq]; dsimp only; subst ha; rfl)
  have hlt := (own_from ho1 (k := a.block) (by rw [orow_eq]; dsimp only; subst ha; rfl)).2
  omega
theorem take_calls {w : World} {lo b k : Nat} {bs : List UInt8} (h : Rdr w lo b bs) (hk : k ≤ 1000000) :
    Calls Try.prog 46 #[.pointer (some ⟨b, 0, none⟩), .int .i64 (k : Int)] w (Ret fun v w' => ∃ A n c, v = .tuple #[.slice A n c, .int .i64 (rd bs k).2.1] ∧ Sl w' A n (bV (if bs.length < k then [] else bs.take k)) ∧ Rdr w' lo b (rd bs k).2.2 ∧ w.grownBy w' (some b)) := by
  obtain ⟨A, n, c, t, hb, hs, hc, ha, hlo⟩ := h
  have hl := hs.blen
  apply calls46
  unfold S46 rd
  refine ptr_i (box0 (A, n, c) hb (by rfl) ?_)
  refine splitW_i (fun hq => ?_) (fun hq => ?_)
  · have hq : (n : Int) < (k : Int) := of_decide_eq_true hq
    rw [if_pos (by omega), if_pos (by omega)]
    exact ⟨none, 0, 0, rfl, Sl.nil w none, ⟨A, n, c, t, hb, hs, hc, ha, hlo⟩, grownBy_refl _ _⟩
  have hq : ¬ (n : Int) < (k : Int) := of_decide_eq_false hq
  rw [if_neg (by omega), if_neg (by omega)]
  refine ptr_i (box0 (A, n, c) hb (by rfl) (guard_i ⟨by omega, by omega, by dsimp only; omega⟩ ?_))
  refine ptr_i (box0 (A, n, c) hb (by rfl) (guard_i ⟨by omega, by dsimp only; omega⟩ ?_))
  dsimp only
  rw [Int.toNat_natCast]
  refine ptr_i (stW_blk hb (by simp) ?_)
  have hg := set_grown w b 0 (.slice (cutAddr A k c 1) (n - k) (c - k))
  have hb' := hb.set 0 (.slice (cutAddr A k c 1) (n - k) (c - k))
  have keep : ∀ {A' : Option Addr} {n' : Nat} {bs' : List UInt8}, Sl w A' n' (bV bs') → (∀ a, A' = some a → lo ≤ a.block ∧ a.block < b) → Sl (w.setCell ⟨b, 0, none⟩ (.slice (cutAddr A k c 1) (n - k) (c - k))) A' n' (bV bs') := fun hs ha => hs.grown hg (fun a e e2 => by injection e2 with e2; have := ha a e; omega)
  have cut : ∀ (l m : Nat) (a : Addr), cutAddr A l m 1 = some a → lo ≤ a.block ∧ a.block < b := by
    intro l m a e
    unfold cutAddr at e
    cases A with
    | none => revert e; split <;> simp
    | some a0 =>
      have := ha a0 rfl
      revert e
      split
      · intro e; first | (injection e with e; subst e; exact this) | cases e
      · intro e
        simp only [Option.map_some, Option.some.injEq] at e
        subst e
        unfold Addr.add
        split <;> exact this
  refine ⟨cutAddr A 0 k 1, k, k, rfl, ?_, ⟨cutAddr A k c 1, n - k, c - k, t, hb', ?_, by omega, cut k c, hlo⟩, hg⟩
  · refine keep ?_ (cut 0 k)
    have := hs.cut0 (k := k) (m := k) (by omega) (by omega)
    rw [bV_take] at this
    exact this
  · refine keep ?_ (cut k c)
    have := hs.cut (l := k) (k := n - k) (m := c) (by omega) (by omega)
    rw [bV_drop, bV_take, List.take_of_length_le (by rw [List.length_drop]; omega)] at this
    exact this
theorem number_calls {w : World} {lo b k : Nat} {bs : List UInt8} (h : Rdr w lo b bs) (hk1 : 1 ≤ k) (hk : k ≤ 8) :
    Calls Try.prog 31 #[.pointer (some ⟨b, 0, none⟩), .int .i64 (k : Int)] w (Ret fun v w' => v = .tuple #[.int .u64 ((rd bs k).1 : Int), .int .i64 (rd bs k).2.1] ∧ Rdr w' lo b (rd bs k).2.2 ∧ w.grownBy w' (some b)) := by
  apply calls31
  unfold S31
  refine splitW_f (by rfl) (splitW_f (decide_eq_false (by omega)) (splitW_f (decide_eq_false (by omega)) ?_))
  refine callW_of (take_calls h (by omega)) ?_
  rintro _ w1 ⟨A, n, c, rfl, hs, hr, hg⟩
  refine ⟨((A, n, c), (rd bs k).2.1, ()), rfl, ?_⟩
  have hl := hs.blen
  have hn : n ≤ 8 := by
    split at hl
    · simp only [List.length_nil] at hl; omega
    · rw [List.length_take] at hl; omega
  refine callW_of (octof_calls hs hn) ?_
  rintro _ w2 ⟨rfl, he2⟩
  refine ⟨_, rfl, ⟨?_, hr.ext he2, grownBy_tr hg (grownBy_of_ext he2 none) (fun j hj => by cases hj)⟩⟩
  dsimp only
  unfold rd
  split <;> rfl
end Go.Proofs.Ytiiemgndnpflbaa.V
