/- Contracts of the statements' own helpers over rows: SameRows, LightRow, may. -/
import Derived.Test.YtlpniinmomhkcaaDoorKVal
set_option linter.unusedVariables false
set_option linter.unusedSimpArgs false
namespace Go.Proofs.YtlpniinmomhkcaaDoor.V
open Go Go.Proofs

theorem getD_of_lt {α : Type} {xs : List α} {i : Nat} {d : α} (h : i < xs.length) : xs.getD i d = xs[i] := by simp [h]
theorem samerows1_calls {w : World} {r r2 n c n2 c2 : Nat} {A A2 : Option Addr} {t t2 : TypeId} {xs ys : List Cell} (hr : Blk w r [.slice A n c] t) (hr2 : Blk w r2 [.slice A2 n2 c2] t2) (h : Sli cellE w A n xs) (h2 : Sli cellE w A2 n2 ys) :
    Calls Tryd.prog 16 #[.slice (some ⟨r, 0, none⟩) 1 1, .slice (some ⟨r2, 0, none⟩) 1 1] w (Ret fun v w' => (∃ b : Bool, v = .bool b ∧ (b = true ↔ xs = ys)) ∧ Ext w w') := by
  apply calls16
  unfold S16
  have l1 := h.len
  have l2 := h2.len
  have hle := h.2.1
  have rd1 : ∀ {w' : World} {K : (Option Addr × Nat × Nat) → WP}, Ext w w' → K (A, n, c) w' → (guardW (0 ≤ (0 : Int) ∧ (0 : Int) < ((1 : Nat) : Int)) <| ptrW (some (⟨r, 0, none⟩ : Addr)) fun p => ldW .slc (p.add (Int.toNat (0 : Int) * 1)) K) w' := fun {w' K} he hk =>
    guard_i ⟨by omega, by omega⟩ (ptr_i (ld_blk (x := (A, n, c)) (hr.ext he) (by rfl) hk))
  have rd2 : ∀ {w' : World} {K : (Option Addr × Nat × Nat) → WP}, Ext w w' → K (A2, n2, c2) w' → (guardW (0 ≤ (0 : Int) ∧ (0 : Int) < ((1 : Nat) : Int)) <| ptrW (some (⟨r2, 0, none⟩ : Addr)) fun p => ldW .slc (p.add (Int.toNat (0 : Int) * 1)) K) w' := fun {w' K} he hk =>
    guard_i ⟨by omega, by omega⟩ (ptr_i (ld_blk (x := (A2, n2, c2)) (hr2.ext he) (by rfl) hk))
  refine splitW_f (by rfl) ?_
  refine loopW_i (fun x w' => Ext w w' ∧ (x = (0, ()) ∨ x = (1, ()) ∧ xs = ys)) (fun x => (1 - x.1).toNat) ⟨Ext.refl w, .inl rfl⟩ ?_
  rintro _ w1 ⟨he, rfl | ⟨rfl, heq⟩⟩
  · dsimp only
    refine splitW_t (by rfl) ?_
    refine draw_i fun w2 he2 _ _ => ?_
    have he2 := he.trans he2
    refine rd1 he2 (rd2 he2 ?_)
    dsimp only
    refine splitW_i (fun hne => ?_) (fun hne => ?_)
    · have hne := bne_iff_ne.1 hne
      refine ⟨⟨false, rfl, ?_⟩, he2⟩
      simp only [Bool.false_eq_true, false_iff]
      rintro rfl
      omega
    have hne := bne_eq_false_iff_eq.1 hne
    obtain rfl : n = n2 := by omega
    refine loopW_i (fun x w' => Ext w w' ∧ ∃ i : Nat, i ≤ n ∧ x = ((i : Int), ()) ∧ xs.take i = ys.take i) (fun x => (n - x.1).toNat) ⟨he2, 0, by omega, rfl, by simp⟩ ?_
    rintro _ w3 ⟨he3, i, hi, rfl, ht⟩
    dsimp only
    refine rd1 he3 ?_
    dsimp only
    by_cases hlt : i < n
    · refine splitW_t (decide_eq_true (by omega)) ?_
      refine draw_i fun w4 he4 _ _ => ?_
      have he4 := he3.trans he4
      refine rd1 he4 ?_
      dsimp only
      refine idx_A (ls := [.int .i64, .int .i64, .str]) cT cell0 (h.ext he4) (fun _ => rfl) rfl (by omega) (by omega) ?_
      refine rd2 he4 ?_
      dsimp only
      refine idx_A (ls := [.int .i64, .int .i64, .str]) cT cell0 (h2.ext he4) (fun _ => rfl) rfl (by omega) (by omega) ?_
      rw [Int.toNat_natCast, getD_of_lt (show i < xs.length by omega), getD_of_lt (show i < ys.length by omega)]
      refine ⟨_, fun w' => neq_cell w' (xs[i]'(by omega)) (ys[i]'(by omega)) _ _, ?_⟩
      refine splitW_i (fun hne => ?_) (fun heq => ?_)
      · refine ⟨⟨false, rfl, ?_⟩, he4⟩
        simp only [Bool.false_eq_true, false_iff]
        rintro rfl
        rw [cellEq_iff.2 rfl] at hne
        cases hne
      · have heq : xs[i]'(by omega) = ys[i]'(by omega) := cellEq_iff.1 (by simpa using heq)
        rw [wrap_i64 (by omega) (by omega)]
        refine ⟨⟨he4, i + 1, by omega, rfl, ?_⟩, by omega⟩
        rw [List.take_succ_eq_append_getElem (by omega), List.take_succ_eq_append_getElem (by omega), ht, heq]
    · refine splitW_f (decide_eq_false (by omega)) ?_
      rw [List.take_of_length_le (by omega), List.take_of_length_le (by omega)] at ht
      rw [wrap_i64 (by omega) (by omega)]
      exact ⟨⟨he3, .inr ⟨rfl, ht⟩⟩, by decide⟩
  · dsimp only
    exact splitW_f (by rfl) ⟨⟨true, rfl, by simp [heq]⟩, he⟩
theorem lightrow_calls {w : World} {A : Option Addr} {n c : Nat} {vs : List Cell} (h : Sli cellE w A n vs) : Calls Tryd.prog 25 #[.slice A n c] w (Ret fun v w' => (∃ q : Bool, v = .bool q ∧ (q = true → n ≤ 20)) ∧ w' = w) := by
  apply calls25
  unfold S25
  have hle := h.2.1
  refine loopW_i (fun y w' => w' = w ∧ ∃ i : Nat, i ≤ n ∧ y = ((i : Int), ())) (fun y => (n - y.1).toNat) ⟨rfl, 0, by omega, rfl⟩ ?_
  rintro _ _ ⟨rfl, i, hi, rfl⟩
  dsimp only
  by_cases hlt : i < n
  · refine splitW_t (decide_eq_true (by omega)) ?_
    refine idx_f (l := .str) 2 (fun c => c.2.2) cell0 h (fun _ => rfl) rfl (by omega) (by omega) ?_
    rw [wrap_i64 (by omega) (by omega)]
    exact splitW_i (fun _ => ⟨⟨false, rfl, fun e => by cases e⟩, rfl⟩) (fun _ => ⟨⟨rfl, i + 1, by omega, rfl⟩, by omega⟩)
  · exact splitW_f (decide_eq_false (by omega)) ⟨⟨_, rfl, fun e => by have := of_decide_eq_true e; omega⟩, rfl⟩
theorem may_calls {w : World} {A : Option Addr} {n c : Nat} {row : List Cell} (h : Sli cellE w A n row) (q : ∀ c ∈ row, cellQ c) : Calls Tryd.prog 12 #[.slice A n c] w (Ret fun v w' => (∃ b : Bool, v = .bool b ∧ (b = true → n ≤ 20 ∧ ∀ c ∈ row, cellOK c = true)) ∧ Ext w w') := by
  apply calls12
  unfold S12
  have hle := h.2.1
  have hl := h.len
  refine loopW_i (fun y w' => ∃ i : Nat, i ≤ n ∧ y = ((i : Int), ()) ∧ Ext w w' ∧ ∀ c ∈ row.take i, cellOK c = true) (fun y => (n - y.1).toNat) ⟨0, by omega, rfl, Ext.refl w, by simp⟩ ?_
  rintro _ w1 ⟨i, hi, rfl, he, hk⟩
  dsimp only
  by_cases hlt : i < n
  · refine splitW_t (decide_eq_true (by omega)) ?_
    refine idx_A (ls := [.int .i64, .int .i64, .str]) cT cell0 (h.ext he) (fun _ => rfl) rfl (by omega) (by omega) ?_
    rw [Int.toNat_natCast]
    have hget : row[i]? = some (row.getD i cell0) := by rw [List.getD_eq_getElem?_getD, List.getElem?_eq_getElem (by omega)]; rfl
    have hmem := List.mem_of_getElem? hget
    have htake := take_snoc hget
    generalize row.getD i cell0 = x at hget hmem htake
    refine callW_of (vcheck_calls w1 (q x hmem)) ?_
    rintro _ w2 ⟨rfl, he2⟩
    refine ⟨_, rfl, splitW_i (fun hne => ?_) (fun hne => ?_)⟩
    · exact ⟨⟨false, rfl, fun e => by cases e⟩, he.trans he2⟩
    · have hx : cellOK x = true := by
        unfold cellE' at hne
        split at hne
        · rename_i hh; exact hh
        · simp at hne
      rw [wrap_i64 (by omega) (by omega)]
      refine ⟨⟨i + 1, by omega, rfl, he.trans he2, fun c hc => ?_⟩, by omega⟩
      rw [htake] at hc
      rcases List.mem_append.1 hc with hc | hc
      · exact hk c hc
      · rw [List.mem_singleton.1 hc]; exact hx
  · obtain rfl : i = n := by omega
    refine splitW_f (decide_eq_false (by omega)) ?_
    rw [List.take_of_length_le (by omega)] at hk
    refine callW_of (lightrow_calls (h.ext he)) ?_
    rintro _ w2 ⟨⟨b, rfl, hb⟩, rfl⟩
    exact ⟨_, rfl, ⟨b, rfl, fun e => ⟨hb e, hk⟩⟩, he⟩
end Go.Proofs.YtlpniinmomhkcaaDoor.V
