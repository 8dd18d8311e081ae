/- Texts and numbers that came in, in slices, opened. -/
import Derived.Test.YtlpniinmomhkcaaDoorFr2
import Derived.Test.YtlpniinmomhkcaaDoorHX
set_option linter.unusedVariables false
set_option linter.unusedSimpArgs false
namespace Go.Proofs.YtlpniinmomhkcaaDoor.V
open Go Go.ChangeShapes Go.WideShapes Go.ChangeAt Go.RowKit Go.Deep Go.Proofs
section
variable {H : Type} {enc : TypeId × Value → H} {P : Program} {w : World} {base : Nat} {spare : Nat → Bool} {held : Bool}
theorem dec_strE {t : TypeId} {n : Nat} {cs : List Value} {x : DataW H × List MemPlace} (ht : P.underlying t = some .string) (h : DataW.trod enc P w base spare held n t cs = some x) : ∃ s : ByteArray, strE.f s = cs ∧ s.size ≤ 9223372036854775807 := by
  obtain ⟨s, h1, h2⟩ := dec_string ht h
  exact ⟨s, h1.symm, by simpa [maxLen] using h2⟩
theorem dec_u32E {t : TypeId} {n : Nat} {cs : List Value} {x : DataW H × List MemPlace} (ht : P.underlying t = some (.int .u32)) (h : DataW.trod enc P w base spare held n t cs = some x) : ∃ z : Nat, (numE .u32).f z = cs ∧ z < 4294967296 := by
  obtain ⟨z, h1, h2⟩ := dec_int ht h
  have := nat_u32 h2
  refine ⟨z.toNat, ?_, by omega⟩
  rw [h1]
  show [Value.int .u32 ((z.toNat : Nat) : Int)] = _
  rw [show ((z.toNat : Nat) : Int) = z by omega]
theorem dec_intE {t : TypeId} {n : Nat} {cs : List Value} {x : DataW H × List MemPlace} (ht : P.underlying t = some (.int .i64)) (h : DataW.trod enc P w base spare held n t cs = some x) : ∃ z : Int, intE.f z = cs ∧ (-9223372036854775808 ≤ z ∧ z < 9223372036854775808) := by
  obtain ⟨z, h1, h2⟩ := dec_int ht h
  exact ⟨z, h1.symm, nat_i64 h2⟩
end
end Go.Proofs.YtlpniinmomhkcaaDoor.V
