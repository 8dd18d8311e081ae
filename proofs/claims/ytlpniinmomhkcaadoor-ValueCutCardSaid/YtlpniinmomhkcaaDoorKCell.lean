/- Cells, and whether they may be: contracts of value.Check and of the document's answer. -/
import Derived.Test.YtlpniinmomhkcaaDoorHX
import Derived.Test.YtlpniinmomhkcaaDoorNum2
import Derived.Test.YtlpniinmomhkcaaDoorChecked
import Derived.Test.YtlpniinmomhkcaaDoorS
set_option linter.unusedVariables false
set_option linter.unusedSimpArgs false
namespace Go.Proofs.YtlpniinmomhkcaaDoor.V
open Go Go.Proofs Go.RowKit

/-- A cell: kind, number, text. -/
abbrev Cell := Int × Int × ByteArray
def cellE : Enc Cell where
  k := 3
  f c := [.int .i64 c.1, .int .i64 c.2.1, .string c.2.2]
  len _ := rfl
  one _ := by
    intro v hv
    simp only [List.mem_cons, List.not_mem_nil, or_false] at hv
    rcases hv with rfl | rfl | rfl <;> rfl
  pos := by omega
def cell0 : Cell := (0, 0, ByteArray.empty)
def cellQ (c : Cell) : Prop := (-9223372036854775808 ≤ c.1 ∧ c.1 < 9223372036854775808) ∧ (-9223372036854775808 ≤ c.2.1 ∧ c.2.1 < 9223372036854775808) ∧ c.2.2.size ≤ 9223372036854775807
def cellEq (a b : Cell) : Bool := a.1 == b.1 && (a.2.1 == b.2.1 && (decide (B a.2.2 = B b.2.2) && true))
theorem cellEq_iff {a b : Cell} : cellEq a b = true ↔ a = b := by
  unfold cellEq
  simp only [Bool.and_eq_true, decide_eq_true_eq, beq_iff_eq, and_true]
  constructor
  · rintro ⟨h1, h2, h3⟩
    exact Prod.ext h1 (Prod.ext h2 (B_inj h3))
  · rintro rfl
    exact ⟨rfl, rfl, rfl⟩
def cV (c : Cell) : Value := .agg #[.int .i64 c.1, .int .i64 c.2.1, .string c.2.2]
def cT (c : Cell) : Int × Int × ByteArray × Unit := (c.1, c.2.1, c.2.2, ())
theorem elem_cell : ElemK Tryd.prog 27 23 (.agg #[.int .i64 0, .int .i64 0, .string ByteArray.empty]) cellE.k 32 := by
  refine ⟨by kernel_rfl, by kernel_rfl, rfl⟩
theorem fields_cell (w : World) (a b : Cell) : (Op.eqFields 9999 #[.int .i64 a.1, .int .i64 a.2.1, .string a.2.2] #[.int .i64 b.1, .int .i64 b.2.1, .string b.2.2] (Tryd.prog.fieldsOf 23).toList).run Tryd.prog w = .ok (cellEq a b) w := by
  have hf : (Tryd.prog.fieldsOf 23).toList = [(Tryd.prog.fieldsOf 23).getD 0 default, (Tryd.prog.fieldsOf 23).getD 1 default, (Tryd.prog.fieldsOf 23).getD 2 default] := by kernel_rfl
  rw [hf]
  unfold cellEq
  rw [← str_beq]
  refine eqFields_step (of_decide_eq_true (by kernel_rfl)) (a := .int .i64 a.1) (b := .int .i64 b.1) (by kernel_rfl) (by kernel_rfl) (run_equalIn_int w 9998 _ .i64 .i64 _ _ (by kernel_rfl)) ?_
  refine eqFields_step (of_decide_eq_true (by kernel_rfl)) (a := .int .i64 a.2.1) (b := .int .i64 b.2.1) (by kernel_rfl) (by kernel_rfl) (run_equalIn_int w 9998 _ .i64 .i64 _ _ (by kernel_rfl)) ?_
  refine eqFields_step (of_decide_eq_true (by kernel_rfl)) (a := .string a.2.2) (b := .string b.2.2) (by kernel_rfl) (by kernel_rfl) (run_equalIn_string w 9998 _ _ _ (by kernel_rfl)) ?_
  rfl
theorem neq_cell (w : World) (a b : Cell) (x y : Operand) : (eqS .neq 23 x y (.agg #[.int .i64 a.1, .int .i64 a.2.1, .string a.2.2]) (.agg #[.int .i64 b.1, .int .i64 b.2.1, .string b.2.2])).run Tryd.prog w = .ok (.bool (!(cellEq a b))) w :=
  eqS_neq (by kernel_rfl) (by kernel_rfl) (by kernel_rfl) (fields_cell w a b)
theorem eql_cell (w : World) (a b : Cell) (x y : Operand) : (eqS .eql 23 x y (.agg #[.int .i64 a.1, .int .i64 a.2.1, .string a.2.2]) (.agg #[.int .i64 b.1, .int .i64 b.2.1, .string b.2.2])).run Tryd.prog w = .ok (.bool (cellEq a b)) w :=
  eqS_eql (by kernel_rfl) (by kernel_rfl) (by kernel_rfl) (fields_cell w a b)
/-- May a cell be? -/
def cellOK (c : Cell) : Bool :=
  if c.1 = 0 then c.2.1 == 0 && decide (B c.2.2 = [])
  else if c.1 = 1 then decide (B c.2.2 = [])
  else if c.1 = 2 then decide (B c.2.2 = []) && (c.2.1 == 0 || c.2.1 == 1)
  else if c.1 = 3 then c.2.1 == 0 && decide ((B c.2.2).length ≤ 256)
  else false
def cellE' (c : Cell) : Int := if cellOK c then 0 else 160
theorem bv_even (b : BitVec 64) : (b &&& ~~~ 1#64 = 0#64) ↔ b.toNat < 2 := by
  constructor
  · intro h
    have e : b = b &&& 1#64 := by
      have h2 : b = (b &&& 1#64) ||| (b &&& ~~~ 1#64) := by
        apply BitVec.eq_of_getLsbD_eq
        intro i hi
        simp only [BitVec.getLsbD_or, BitVec.getLsbD_and, BitVec.getLsbD_not]
        cases b.getLsbD i <;> cases (1#64).getLsbD i <;> simp [hi]
      rw [h, BitVec.or_zero] at h2
      exact h2
    rw [e, BitVec.toNat_and]
    have : b.toNat &&& (1#64).toNat = b.toNat % 2 := by rw [show (1#64).toNat = 1 from rfl, Nat.and_one_is_mod]
    omega
  · intro h
    have : b = 0#64 ∨ b = 1#64 := by
      rcases Nat.lt_or_ge b.toNat 1 with h1 | h1
      · left; apply BitVec.eq_of_toNat_eq; rw [show (0#64).toNat = 0 from rfl]; omega
      · right; apply BitVec.eq_of_toNat_eq; rw [show (1#64).toNat = 1 from rfl]; omega
    rcases this with rfl | rfl <;> decide
theorem iandn_one {u : Int} (h0 : -9223372036854775808 ≤ u) (h1 : u < 9223372036854775808) : (iandn .i64 u 1 == 0) = (u == 0 || u == 1) := by
  unfold iandn
  show (IntKind.wrap .i64 ((BitVec.ofInt 64 u &&& ~~~ (BitVec.ofInt 64 1)).toNat : Int) == 0) = _
  rw [show BitVec.ofInt 64 1 = 1#64 from rfl]
  have hb := bv_even (BitVec.ofInt 64 u)
  have ht : (BitVec.ofInt 64 u).toNat = (u % 18446744073709551616).toNat := by rw [BitVec.toNat_ofInt]; rfl
  have hlt := (BitVec.ofInt 64 u &&& ~~~ 1#64).isLt
  have hz : (IntKind.wrap .i64 ((BitVec.ofInt 64 u &&& ~~~ 1#64).toNat : Int) = 0) ↔ (BitVec.ofInt 64 u &&& ~~~ 1#64) = 0#64 := by
    constructor
    · intro h
      apply BitVec.eq_of_toNat_eq
      rw [show (0#64).toNat = 0 from rfl]
      rw [wrap_i64'] at h
      split at h <;> omega
    · intro h
      rw [h]
      decide
  rw [Bool.eq_iff_iff, beq_iff_eq, hz, hb, ht]
  simp only [Bool.or_eq_true, beq_iff_eq]
  omega
theorem empty_beq (s : ByteArray) : (s.toList == (ByteArray.mk #[]).toList) = decide (B s = []) := by rw [str_beq]; rfl
theorem vcheck_calls (w : World) {c : Cell} (hq : cellQ c) : Calls Tryd.prog 19 #[.agg #[.int .i64 c.1, .int .i64 c.2.1, .string c.2.2]] w (Ret fun v w' => v = .int .i64 (cellE' c) ∧ Ext w w') := by
  apply calls19
  unfold S19
  obtain ⟨k, z, s⟩ := c
  refine new_i fun r w1 hb he _ _ => ?_
  refine joinW_s (fun (y : Bool × Unit) w' => y.1 = cellOK (k, z, s) ∧ Ext w w') ?_ (fun J hJ => ?_)
  · rintro ⟨y, _⟩ w' ⟨hy, he'⟩
    simp only at hy
    subst hy
    unfold cellE'
    cases cellOK (k, z, s) with
    | true => exact splitW_f (by rfl) ⟨rfl, he'⟩
    | false => exact splitW_t (by rfl) ⟨rfl, he'⟩
  refine box0 k hb (by rfl) ?_
  have hsz := B_size s
  refine splitW_i (fun h0 => ?_) (fun h0 => ?_)
  · have h0 := beq_iff_eq.1 h0
    refine boxA (ls := [.int .i64, .int .i64, .str]) (k, z, s, ()) hb rfl ?_
    refine ⟨cellEq (k, z, s) cell0, fun w' => eql_cell w' (k, z, s) cell0 _ _, hJ _ _ ⟨?_, he⟩⟩
    simp [cellEq, cellOK, cell0, h0, B]
  have h0 := beq_eq_false_iff_ne.1 h0
  refine splitW_i (fun h1 => ?_) (fun h1 => ?_)
  · have h1 := beq_iff_eq.1 h1
    refine boxF 2 s hb (by rfl) (hJ _ _ ⟨?_, he⟩)
    simp only [cellOK, h1, empty_beq]
    rfl
  have h1 := beq_eq_false_iff_ne.1 h1
  refine splitW_i (fun h2 => ?_) (fun h2 => ?_)
  · have h2 := beq_iff_eq.1 h2
    refine boxF 2 s hb (by rfl) ?_
    rw [empty_beq]
    refine splitW_i (fun h3 => ?_) (fun h3 => ?_)
    · refine boxF 1 z hb (by rfl) (hJ _ _ ⟨?_, he⟩)
      rw [iandn_one hq.2.1.1 hq.2.1.2]
      simp only [cellOK, h2, h3]
      rfl
    · refine hJ _ _ ⟨?_, he⟩
      simp only [cellOK, h2, h3]
      rfl
  have h2 := beq_eq_false_iff_ne.1 h2
  refine splitW_i (fun h3 => ?_) (fun h3 => ?_)
  · have h3 := beq_iff_eq.1 h3
    refine boxF 1 z hb (by rfl) ?_
    refine splitW_i (fun h4 => ?_) (fun h4 => ?_)
    · refine boxF 2 s hb (by rfl) (hJ _ _ ⟨?_, he⟩)
      simp only [cellOK, h3, h4]
      show decide ((s.size : Int) ≤ 256) = decide ((B s).length ≤ 256)
      exact decide_eq_decide.2 (by omega)
    · refine hJ _ _ ⟨?_, he⟩
      simp only [cellOK, h3, h4]
      rfl
  have h3 := beq_eq_false_iff_ne.1 h3
  refine hJ _ _ ⟨?_, he⟩
  simp [cellOK, h0, h1, h2, h3]
theorem rvcheck_calls (w : World) (c : Cell) : Calls Tryd.prog 28 #[.agg #[.int .i64 c.1, .int .i64 c.2.1, .string c.2.2]] w (Ret fun v w' => v = .int .i64 (cellE' c) ∧ Ext w w') := by
  apply calls28
  unfold S28
  obtain ⟨k, z, s⟩ := c
  refine new_i fun r w1 hb he _ _ => ?_
  refine joinW_s (fun (y : Bool × Unit) w' => y.1 = cellOK (k, z, s) ∧ Ext w w') ?_ (fun J hJ => ?_)
  · rintro ⟨y, _⟩ w' ⟨hy, he'⟩
    simp only at hy
    subst hy
    unfold cellE'
    cases cellOK (k, z, s) with
    | true => exact splitW_f (by rfl) ⟨rfl, he'⟩
    | false => exact splitW_t (by rfl) ⟨rfl, he'⟩
  refine box0 k hb (by rfl) ?_
  have hsz := B_size s
  refine splitW_i (fun h0 => ?_) (fun h0 => ?_)
  · have h0 := beq_iff_eq.1 h0
    refine boxF 1 z hb (by rfl) ?_
    refine splitW_i (fun h4 => ?_) (fun h4 => ?_)
    · refine boxF 2 s hb (by rfl) (hJ _ _ ⟨?_, he⟩)
      simp only [cellOK, h0, h4, empty_beq]
      rfl
    · refine hJ _ _ ⟨?_, he⟩
      simp only [cellOK, h0, h4]
      rfl
  have h0 := beq_eq_false_iff_ne.1 h0
  refine splitW_i (fun h1 => ?_) (fun h1 => ?_)
  · have h1 := beq_iff_eq.1 h1
    refine boxF 2 s hb (by rfl) (hJ _ _ ⟨?_, he⟩)
    simp only [cellOK, h1, empty_beq]
    rfl
  have h1 := beq_eq_false_iff_ne.1 h1
  refine splitW_i (fun h2 => ?_) (fun h2 => ?_)
  · have h2 := beq_iff_eq.1 h2
    refine boxF 2 s hb (by rfl) ?_
    rw [empty_beq]
    refine splitW_i (fun h3 => ?_) (fun h3 => ?_)
    · refine boxF 1 z hb (by rfl) ?_
      refine splitW_i (fun h4 => ?_) (fun h4 => ?_)
      · refine hJ _ _ ⟨?_, he⟩
        simp only [cellOK, h2, h3, h4]
        rfl
      · refine boxF 1 z hb (by rfl) (hJ _ _ ⟨?_, he⟩)
        simp only [cellOK, h2, h3, h4]
        rfl
    · refine hJ _ _ ⟨?_, he⟩
      simp only [cellOK, h2, h3]
      rfl
  have h2 := beq_eq_false_iff_ne.1 h2
  refine splitW_i (fun h3 => ?_) (fun h3 => ?_)
  · have h3 := beq_iff_eq.1 h3
    refine boxF 1 z hb (by rfl) ?_
    refine splitW_i (fun h4 => ?_) (fun h4 => ?_)
    · refine boxF 2 s hb (by rfl) (hJ _ _ ⟨?_, he⟩)
      simp only [cellOK, h3, h4]
      show decide ((s.size : Int) ≤ 256) = decide ((B s).length ≤ 256)
      exact decide_eq_decide.2 (by omega)
    · refine hJ _ _ ⟨?_, he⟩
      simp only [cellOK, h3, h4]
      rfl
  have h3 := beq_eq_false_iff_ne.1 h3
  refine hJ _ _ ⟨?_, he⟩
  simp [cellOK, h0, h1, h2, h3]
end Go.Proofs.YtlpniinmomhkcaaDoor.V
