/- Cells that came in, opened. -/
import Derived.Test.YtlpniinmomhkcaaDoorDecMore
import Derived.Test.YtlpniinmomhkcaaDoorKCell
set_option linter.unusedVariables false
set_option linter.unusedSimpArgs false
namespace Go.Proofs.YtlpniinmomhkcaaDoor.V
open Go Go.ChangeShapes Go.WideShapes Go.ChangeAt Go.RowKit Go.Deep Go.Proofs
section
variable {H : Type} {enc : TypeId × Value → H} {w : World} {base : Nat} {spare : Nat → Bool} {held : Bool}
theorem dec_cell {n : Nat} {cs : List Value} {x : DataW H × List MemPlace} (h : DataW.trod enc Tryd.prog w base spare held n 23 cs = some x) : ∃ c : Cell, cellE.f c = cs ∧ cellQ c := by
  obtain ⟨hl, m, hf⟩ := dec_fields (ts := [3, 2, 9]) (by kernel_rfl) (by kernel_rfl) (by kernel_rfl) (by kernel_rfl) h
  obtain ⟨v0, y0, e0, h0⟩ := hf 0 _ rfl
  obtain ⟨v1, y1, e1, h1⟩ := hf 1 _ rfl
  obtain ⟨v2, y2, e2, h2⟩ := hf 2 _ rfl
  obtain ⟨z0, hz0, hw0⟩ := dec_int (k := .i64) (by kernel_rfl) h0
  obtain ⟨z, hz, hzw⟩ := dec_int (k := .i64) (by kernel_rfl) h1
  obtain ⟨s, hs, hsl⟩ := dec_string (by kernel_rfl) h2
  cases hs; cases hz; cases hz0
  refine ⟨(z0, z, s), ?_, nat_i64 hw0, nat_i64 hzw, by simpa [maxLen] using hsl⟩
  match cs, hl with
  | [a0, a1, a2], _ =>
    simp only [List.getElem?_cons_zero, List.getElem?_cons_succ, Option.some.injEq] at e0 e1 e2
    rw [e0, e1, e2]
    rfl
end
end Go.Proofs.YtlpniinmomhkcaaDoor.V
