/- Geometries and words that came in, opened. -/
import Derived.Test.YtpbjbhcejgnhiaaDoorFr2
import Derived.Test.YtpbjbhcejgnhiaaDoorChecked
set_option linter.unusedVariables false
set_option linter.unusedSimpArgs false
set_option maxRecDepth 100000
namespace Go.Proofs.YtpbjbhcejgnhiaaDoor.V
open Go Go.ChangeShapes Go.WideShapes Go.ChangeAt Go.RowKit Go.Deep Go.Proofs
theorem n_u64 {z : Int} (h : (Lit.int .u64 z).wf = true) : ∃ k : Nat, z = (k : Int) ∧ k < 18446744073709551616 := by
  have := nat_u64 h
  exact ⟨z.toNat, by omega, by omega⟩
section
variable {H : Type} {enc : TypeId × Value → H} {w : World} {base : Nat} {spare : Nat → Bool} {held : Bool}
theorem open_geo {v : Value} {d : DataW H} {ps : List MemPlace} {r : Reach} {b0 : Nat} (hv : Value.okWide Tryd.prog w r b0 23 v) (h : DataW.Trod enc Tryd.prog w base spare held 23 v d ps) :
    ∃ s b : Int, v = .agg #[.int .i64 s, .int .i64 b] ∧ (-9223372036854775808 ≤ s ∧ s < 9223372036854775808) ∧ (-9223372036854775808 ≤ b ∧ b < 9223372036854775808) := by
  obtain ⟨cs, rfl, hsz⟩ := okWide_struct (show Tryd.prog.underlying 23 = some (.struct (fieldsOf Tryd.prog 23)) by kernel_rfl) hv
  obtain ⟨fuel, hf⟩ := h
  have hf' : DataW.trod enc Tryd.prog w base spare held fuel 23 cs.toList = some (d, ps) := hf
  obtain ⟨hl, m, hf2⟩ := dec_fields (ts := [3, 3]) (by kernel_rfl) (by kernel_rfl) (by kernel_rfl) (by kernel_rfl) hf'
  obtain ⟨v0, y0, e0, h0⟩ := hf2 0 _ rfl
  obtain ⟨v1, y1, e1, h1⟩ := hf2 1 _ rfl
  obtain ⟨z0, hz0, hw0⟩ := dec_int (k := .i64) (by kernel_rfl) h0
  obtain ⟨z1, hz1, hw1⟩ := dec_int (k := .i64) (by kernel_rfl) h1
  cases hz0; cases hz1
  refine ⟨z0, z1, ?_, nat_i64 hw0, nat_i64 hw1⟩
  congr 1
  apply Array.toList_inj.1
  match hcs : cs.toList, hl with
  | [a, b], _ =>
    rw [hcs] at e0 e1
    simp only [List.getElem?_cons_zero, List.getElem?_cons_succ, Option.some.injEq] at e0 e1
    rw [e0, e1]
end
end Go.Proofs.YtpbjbhcejgnhiaaDoor.V
