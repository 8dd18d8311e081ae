/- Picks and acts that came in, opened. -/
import Derived.Test.YtpbjbhcejgnhiaaDoorDecRows
import Derived.Test.YtpbjbhcejgnhiaaDoorKDev7
set_option linter.unusedVariables false
set_option linter.unusedSimpArgs false
namespace Go.Proofs.YtpbjbhcejgnhiaaDoor.V
open Go Go.ChangeShapes Go.WideShapes Go.ChangeAt Go.RowKit Go.Deep Go.Proofs Crc

theorem n_u8 {z : Int} (h : (Lit.int .u8 z).wf = true) : ∃ y : UInt8, z = (y.toNat : Int) := by
  have := nat_u8 h
  exact ⟨UInt8.ofNat z.toNat, by rw [UInt8.toNat_ofNat']; omega⟩
abbrev SLC := Option Addr × Nat × Nat
abbrev ActV := Int × Int × UInt8 × Int × W32 × SLC
def actE : Enc ActV where
  k := 6
  f a := [.int .i64 a.1, .int .i64 a.2.1, .int .u8 (a.2.2.1.toNat : Int), .int .i64 a.2.2.2.1, .int .u32 (a.2.2.2.2.1.toNat : Int), .slice a.2.2.2.2.2.1 a.2.2.2.2.2.2.1 a.2.2.2.2.2.2.2]
  len _ := rfl
  one _ := by
    intro v hv
    simp only [List.mem_cons, List.not_mem_nil, or_false] at hv
    rcases hv with rfl | rfl | rfl | rfl | rfl | rfl <;> rfl
  pos := by decide
def I64 (z : Int) : Prop := -9223372036854775808 ≤ z ∧ z < 9223372036854775808
def picksQ (w : World) (x : SLC) (ps : List (Int × Nat)) : Prop := Sli pickE w x.1 x.2.1 ps ∧ ∀ p ∈ ps, p.2 < 18446744073709551616
def actQ (w : World) (a : ActV) : Prop := I64 a.1 ∧ I64 a.2.1 ∧ I64 a.2.2.2.1 ∧ ∃ ps, picksQ w a.2.2.2.2.2 ps
theorem picksQ.ext {w w' : World} {x : SLC} {ps : List (Int × Nat)} (h : picksQ w x ps) (he : Ext w w') : picksQ w' x ps := ⟨h.1.ext he, h.2⟩
section
variable {H : Type} {enc : TypeId × Value → H} {w : World} {base : Nat} {spare : Nat → Bool} {held : Bool}
theorem dec_pick {n : Nat} {cs : List Value} {x : DataW H × List MemPlace} (h : DataW.trod enc Tryd.prog w base spare held n 45 cs = some x) : ∃ p : Int × Nat, pickE.f p = cs ∧ p.2 < 18446744073709551616 := by
  obtain ⟨hl, m, hf2⟩ := dec_fields (ts := [3, 42]) (by kernel_rfl) (by kernel_rfl) (by kernel_rfl) (by kernel_rfl) h
  obtain ⟨v0, y0, e0, h0⟩ := hf2 0 _ rfl
  obtain ⟨v1, y1, e1, h1⟩ := hf2 1 _ rfl
  obtain ⟨z0, hz0, hw0⟩ := dec_int (k := .i64) (by kernel_rfl) h0
  obtain ⟨z1, hz1, hw1⟩ := dec_int (k := .u64) (by kernel_rfl) h1
  cases hz0; cases hz1
  have := nat_u64 hw1
  match cs, hl with
  | [a, b], _ =>
    simp only [List.getElem?_cons_zero, List.getElem?_cons_succ, Option.some.injEq] at e0 e1
    refine ⟨(z0, z1.toNat), ?_, by dsimp only; omega⟩
    rw [e0, e1]
    show [Value.int .i64 z0, Value.int .u64 ((z1.toNat : Nat) : Int)] = _
    rw [show ((z1.toNat : Nat) : Int) = z1 by omega]
theorem dec_act {n : Nat} {cs : List Value} {x : DataW H × List MemPlace} (h : DataW.trod enc Tryd.prog w base (fun _ => true) held n 36 cs = some x) : ∃ a : ActV, actE.f a = cs ∧ actQ w a := by
  obtain ⟨hl, m, hf2⟩ := dec_fields (ts := [3, 3, 5, 3, 33, 34]) (by kernel_rfl) (by kernel_rfl) (by kernel_rfl) (by kernel_rfl) h
  obtain ⟨v0, y0, e0, h0⟩ := hf2 0 _ rfl
  obtain ⟨v1, y1, e1, h1⟩ := hf2 1 _ rfl
  obtain ⟨v2, y2, e2, h2⟩ := hf2 2 _ rfl
  obtain ⟨v3, y3, e3, h3⟩ := hf2 3 _ rfl
  obtain ⟨v4, y4, e4, h4⟩ := hf2 4 _ rfl
  obtain ⟨v5, y5, e5, h5⟩ := hf2 5 _ rfl
  obtain ⟨z0, hz0, hw0⟩ := dec_int (k := .i64) (by kernel_rfl) h0
  obtain ⟨z1, hz1, hw1⟩ := dec_int (k := .i64) (by kernel_rfl) h1
  obtain ⟨z2, hz2, hw2⟩ := dec_int (k := .u8) (by kernel_rfl) h2
  obtain ⟨z3, hz3, hw3⟩ := dec_int (k := .i64) (by kernel_rfl) h3
  obtain ⟨z4, hz4, hw4⟩ := dec_int (k := .u32) (by kernel_rfl) h4
  obtain ⟨A, k, c, ps, hz5, hsl, hkc, hq⟩ := open_rowsC (E := pickE) (Q := fun p => p.2 < 18446744073709551616) (e := 45) (by kernel_rfl) (by kernel_rfl) (fun n cs x h => dec_pick h) h5
  obtain ⟨m4, rfl⟩ := bv_u32 hw4
  cases hz0; cases hz1; cases hz2; cases hz3; cases hz4; cases hz5
  have g2 := nat_u8 hw2
  match cs, hl with
  | [a, b, c', d, e, f], _ =>
    simp only [List.getElem?_cons_zero, List.getElem?_cons_succ, Option.some.injEq] at e0 e1 e2 e3 e4 e5
    refine ⟨(z0, z1, UInt8.ofNat z2.toNat, z3, m4, (A, k, c)), ?_, nat_i64 hw0, nat_i64 hw1, nat_i64 hw3, ps, hsl, hq⟩
    rw [e0, e1, e2, e3, e4, e5]
    show [Value.int .i64 z0, .int .i64 z1, .int .u8 (((UInt8.ofNat z2.toNat).toNat : Nat) : Int), .int .i64 z3, .int .u32 (m4.toNat : Int), .slice A k c] = _
    rw [show (((UInt8.ofNat z2.toNat).toNat : Nat) : Int) = z2 by rw [UInt8.toNat_ofNat']; omega]
end
end Go.Proofs.YtpbjbhcejgnhiaaDoor.V
