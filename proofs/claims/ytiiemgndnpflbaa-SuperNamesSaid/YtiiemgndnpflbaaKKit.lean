/- Contracts of the statements' own helpers, and of slices.Clone. -/
import Derived.Test.YtiiemgndnpflbaaS
import Derived.Test.YtiiemgndnpflbaaH3
import Derived.Test.YtiiemgndnpflbaaNum2
set_option linter.unusedVariables false
set_option linter.unusedSimpArgs false
namespace Go.Proofs.Ytiiemgndnpflbaa.V
open Go Go.Proofs

theorem elem_u8 : Elem Try.prog 35 5 (.int .u8 0) 1 := by
  refine ⟨by kernel_rfl, by kernel_rfl, rfl⟩
/-- A slice of bytes of one's own comes back. -/
def Bytes (w : World) (bs : List UInt8) (v : Value) (w' : World) : Prop := ∃ x : Option Addr × Nat × Nat, v = .slice x.1 x.2.1 x.2.2 ∧ Own 5 w' w.heap.size x.1 x.2.1 x.2.2 (bV bs) ∧ Ext w w'
theorem bytes_ret {w w' : World} {bs : List UInt8} {A : Option Addr} {n c : Nat} (h : Own 5 w' w.heap.size A n c (bV bs)) (he : Ext w w') : Bytes w bs (.slice A n c) w' := ⟨(A, n, c), rfl, h, he⟩
/-- A slice's bytes, behind an empty row. -/
theorem own_of {w : World} {A : Option Addr} {n c : Nat} {bs : List UInt8} {K : Option Addr × Nat × Nat → WP} (h : Sl w A n (bV bs)) (hn : n ≤ 140737488355328)
    (hK : ∀ A' c' w', Own 5 w' w.heap.size A' n c' (bV bs) → Ext w w' → K (A', n, c') w') :
    (newW (.cells #[] 5) fun r => runW Try.prog (Builtin.append_ #[35, 35] 35 #[.slice (some (⟨r, 0, none⟩ : Addr)) 0 0, .slice A n c]) .slc K) w := by
  apply newW_i
  have ho : Own 5 (w.alloc (.cells #[] 5)) w.heap.size (some ⟨w.heap.size, 0, none⟩) 0 0 [] := Own.lit (cs := #[]) (Nat.le_refl _) (by simp)
  have he : Ext w (w.alloc (.cells #[] 5)) := (Ext.refl w).alloc _
  refine append_sl (c := 0) (n := 0) (m := n) elem_u8 ho he.size (h.ext he) (bV_one bs) (by omega) (by omega) ?_
  intro A' c' w' ho' hg _
  rw [List.nil_append, Nat.zero_add] at ho'
  rw [Nat.zero_add]
  exact hK A' c' w' ho' (he.grown hg.grown (ho.row'))

/-- A number brought below another one. -/
def pick (n m : Int) : Int := if m < 1 then 0 else n % m
theorem put_calls {w : World} {B : Nat} {A : Option Addr} {n c : Nat} {bs : List UInt8} {v k : Nat} (h : Own 5 w B A n c (bV bs)) (hB : B ≤ w.heap.size) (hn : n ≤ 140737488355000) (hv : v < 18446744073709551616) (hk1 : 1 ≤ k) (hk : k ≤ 8) :
    Calls Try.prog 36 #[.slice A n c, .int .u64 (v : Int), .int .i64 (k : Int)] w (Ret fun r w' => ∃ x : Option Addr × Nat × Nat, r = .slice x.1 x.2.1 x.2.2 ∧ Own 5 w' B x.1 x.2.1 x.2.2 (bV (bs ++ le k v)) ∧ Grew w w' (orow A) (orow x.1)) := by
  apply calls36
  unfold S36
  refine splitW_f (decide_eq_false (by omega)) ?_
  refine splitW_f (decide_eq_false (by omega)) ?_
  refine loopW_i (fun x w' => ∃ (A' : Option Addr) (c' i : Nat), i ≤ k ∧ x = ((A', n + i, c'), (i : Int), ()) ∧ Own 5 w' B A' (n + i) c' (bV (bs ++ le i v)) ∧ Grew w w' (orow A) (orow A')) (fun x => (k - x.2.1).toNat)
    ⟨A, c, 0, by omega, rfl, by simpa [le] using h, Grew.refl _ _⟩ ?_
  rintro _ w' ⟨A', c', i, hi, rfl, ho, hg⟩
  dsimp only
  have hB' : B ≤ w'.heap.size := Nat.le_trans hB hg.grown.size
  by_cases hlt : i < k
  · refine splitW_t (decide_eq_true (by omega)) ?_
    have e1 : IntKind.wrap .u64 (IntKind.wrap .i64 ((8 : Int) * (i : Int))) = ((8 * i : Nat) : Int) := by
      rw [wrap_i64 (by omega) (by omega), wrap_u64]
      omega
    rw [e1]
    refine ⟨by omega, ?_⟩
    rw [ishr_nat .u64 v (8 * i) (by simp [IntKind.bits]; omega), wrap_u8_nat, Nat.pow_mul, show (2 : Nat) ^ 8 = 256 from rfl]
    have hone : ∀ y ∈ [Value.int .u8 ((UInt8.ofNat (v / 256 ^ i)).toNat : Int)], y.oneCell' = true := by
      intro y hy
      simp only [List.mem_singleton] at hy
      subst hy
      rfl
    refine append_new (ys := [Value.int .u8 ((UInt8.ofNat (v / 256 ^ i)).toNat : Int)]) elem_u8 ho hB' hone (by simp; omega) (by omega) ?_
    intro A2 c2 w2 ho2 hg2
    refine ⟨⟨A2, c2, i + 1, by omega, ?_, ?_, ?_⟩, ?_⟩
    · rw [wrap_i64 (by omega) (by omega)]; rfl
    · have e2 : bV (bs ++ le (i + 1) v) = bV (bs ++ le i v) ++ [Value.int .u8 ((UInt8.ofNat (v / 256 ^ i)).toNat : Int)] := by
        rw [le_succ, ← List.append_assoc, bV_append (bs ++ le i v)]
        rfl
      rw [e2]
      exact ho2
    · exact hg.step hg2
    · rw [wrap_i64 (by omega) (by omega)]; omega
  · obtain rfl : i = k := by omega
    refine splitW_f (decide_eq_false (by omega)) ?_
    exact ⟨(A', n + i, c'), rfl, ho, hg⟩
theorem refof_calls {w : World} {A : Option Addr} {n c : Nat} {bs : List UInt8} (h : Sl w A n (bV bs)) (hn : n ≤ 8) : Calls Try.prog 41 #[.slice A n c] w (Ret fun v w' => v = .int .u64 (lev bs : Int) ∧ w' = w) := by
  apply calls41
  unfold S41
  have hl := h.blen
  refine splitW_f (decide_eq_false (by omega)) ?_
  refine loopW_i (fun x w' => w' = w ∧ ∃ i : Nat, i ≤ n ∧ x = ((lev (bs.take i) : Int), (i : Int), ())) (fun x => (n - x.2.1).toNat) ⟨rfl, 0, by omega, by simp [lev]⟩ ?_
  rintro _ w' ⟨rfl, i, hi, rfl⟩
  dsimp only
  by_cases hlt : i < n
  · refine splitW_t (decide_eq_true (by omega)) ?_
    refine idx_byte h (by omega) (by omega) ?_
    have e1 : IntKind.wrap .u64 (IntKind.wrap .i64 ((8 : Int) * (i : Int))) = ((8 * i : Nat) : Int) := by
      rw [wrap_i64 (by omega) (by omega), wrap_u64]
      omega
    rw [e1]
    refine ⟨by omega, ?_⟩
    rw [Int.toNat_natCast, wrap_i64 (by omega) (by omega)]
    refine ⟨⟨rfl, i + 1, by omega, ?_⟩, by omega⟩
    have hb := (bs.getD i 0).toNat_lt
    rw [wrap_u64_nat (by omega), ishl_nat (k := .u64) rfl _ (8 * i) (by simp [IntKind.bits]; omega)]
    have e2 : bs.take (i + 1) = bs.take i ++ [bs.getD i 0] := by
      rw [List.take_succ_eq_append_getElem (by omega), List.getD_eq_getElem?_getD, List.getElem?_eq_getElem (by omega)]
      rfl
    have hlev := lev_lt (bs.take i)
    rw [List.length_take, Nat.min_eq_left (by omega)] at hlev
    have hp : 256 ^ i = 2 ^ (8 * i) := by rw [Nat.pow_mul]
    rw [hp] at hlev
    have h64 : 2 ^ (8 * i) * 256 ≤ 2 ^ 64 := by
      rw [show (256 : Nat) = 2 ^ 8 from rfl, ← Nat.pow_add]
      exact Nat.pow_le_pow_right (by omega) (by omega)
    have hmul : (bs.getD i 0).toNat * 2 ^ (8 * i) < 2 ^ 64 := Nat.lt_of_lt_of_le (Nat.mul_lt_mul_of_pos_right hb (Nat.two_pow_pos _)) (by rw [Nat.mul_comm]; exact h64)
    have e3 : (bs.getD i 0).toNat * 2 ^ (8 * i) % 2 ^ IntKind.bits .u64 = 2 ^ (8 * i) * (bs.getD i 0).toNat := by rw [Nat.mul_comm (2 ^ (8 * i))]; exact Nat.mod_eq_of_lt hmul
    rw [e3, ior_nat (k := .u64) rfl (Nat.lt_of_lt_of_le hlev (Nat.le_trans (by omega) h64)) (by rw [Nat.mul_comm]; exact hmul)]
    rw [e2, lev_append, List.length_take, Nat.min_eq_left (by omega), hp]
    simp only [lev, Nat.mul_zero, Nat.add_zero]
    rw [Nat.or_comm, ← Nat.two_pow_add_eq_or_of_lt hlev, Nat.add_comm]
    rfl
  · obtain rfl : i = n := by omega
    refine splitW_f (decide_eq_false (by omega)) ?_
    rw [List.take_of_length_le (by omega)]
    exact ⟨rfl, rfl⟩
theorem clone_calls {w : World} {A : Option Addr} {n c : Nat} {bs : List UInt8} (h : Sl w A n (bV bs)) (hn : n ≤ 140737488355328) : Calls Try.prog 45 #[.slice A n c] w (Ret (Bytes w bs)) := by
  apply calls45
  unfold S45
  refine splitW_i (fun hA => ?_) (fun hA => ?_)
  · have hA : A = none := by simpa using hA
    subst hA
    have hn0 : n = 0 := by
      rcases Nat.eq_zero_or_pos n with h0 | h0
      · exact h0
      · obtain ⟨a, h1, _⟩ := h.2.2 h0; cases h1
    have hb := h.blen
    obtain rfl : bs = [] := List.eq_nil_of_length_eq_zero (by omega)
    exact bytes_ret (Own.nil _ _ _) (Ext.refl w)
  · exact own_of h hn fun A' c' w' ho he => bytes_ret ho he
end Go.Proofs.Ytiiemgndnpflbaa.V
