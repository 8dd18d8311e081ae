/- The listed variables of this seat, opened; the door's own heap. -/
import Derived.Test.YtlpniinmomhkcaaDoorRows
import Derived.Test.YtlpniinmomhkcaaDoorCards
import Derived.Test.YtlpniinmomhkcaaDoorTie
import Derived.Test.YtlpniinmomhkcaaDoorDecCell
import Derived.Test.YtlpniinmomhkcaaDoorKVal3
import Derived.ProofKit
import Derived.LaidMore
import Derived.OpenShut
import Derived.Stop.Joined
import Derived.SevenTiedAt
set_option linter.unusedVariables false
set_option maxRecDepth 100000
namespace Go.Proofs.YtlpniinmomhkcaaDoor.V
open Go Go.Proofs Go.ChangeShapes Go.WideShapes Go.ChangeAt Go.WideMaps Go.WideElems Go.RowKit

def laidL : List (String × DataW Unit) := [("math/bits.deBruijn32tab", Rows.laid_math_bits_deBruijn32tab), ("math/bits.deBruijn64tab", Rows.laid_math_bits_deBruijn64tab), ("internal/strconv.uint64pow10", Rows.laid_internal_strconv_uint64pow10)]
def laidL5 : List (String × DataW Unit) := [("math/bits.deBruijn32tab", Rows.laid_math_bits_deBruijn32tab), ("math/bits.deBruijn64tab", Rows.laid_math_bits_deBruijn64tab), ("internal/strconv.uint64pow10", Rows.laid_internal_strconv_uint64pow10), ("strconv.ErrRange", Rows.laid_strconv_ErrRange), ("strconv.ErrSyntax", Rows.laid_strconv_ErrSyntax)]
theorem door_met (os : Os) (args : Array Value) : laidMetH Tryd.prog laidL ((World.doorLaid Tryd.prog 62 os).forCall (fun _ _ => 0) ⟨#[], args, []⟩).memory :=
  laidMetH_of_parts3 (fuel := 8) (laidMet_of_run' 8 (by kernel_rfl) (by kernel_rfl)) (by kernel_rfl) (by kernel_rfl)
theorem door_met5 (os : Os) (args : Array Value) : laidMetH Tryd.prog laidL5 ((World.doorLaid Tryd.prog 62 os).forCall (fun _ _ => 0) ⟨#[], args, []⟩).memory :=
  laidMetH_of_parts3 (fuel := 8) (laidMet_of_run' 8 (by kernel_rfl) (by kernel_rfl)) (by kernel_rfl) (by kernel_rfl)
theorem var_of_laid {P : Program} {w : World} : ∀ {l : List (String × DataW Unit)} {ps : List MemPlace} {n : String} {d : DataW Unit}, DataW.LaidVars P w l ps → (n, d) ∈ l →
    ∃ g t cs fuel p, P.globalNamed n = some g ∧ (P.globals[g]?).map (·.type) = some t ∧ w.var? P n = some cs ∧ DataW.trod (fun _ => ()) P w 0 (fun _ => true) false fuel t cs.toList = some (d, p)
  | [], _, _, _, _, hm => by cases hm
  | (n0, d0) :: r, ps, n, d, h, hm => by
    obtain ⟨g, t, cs, fuel, p, q, h1, h2, h3, h4, h5, h6⟩ := h
    rcases List.mem_cons.1 hm with e | e
    · cases e; exact ⟨g, t, cs, fuel, p, h1, h2, h3, h4⟩
    · exact var_of_laid h5 e
theorem gPow : Tryd.prog.globalNamed "internal/strconv.uint64pow10" = some 1 := by kernel_rfl
theorem tPow : (Tryd.prog.globals[1]?).map (·.type) = some 110 := by kernel_rfl
theorem pow_of_vars {W : World} {l : List (String × DataW Unit)} {ps : List MemPlace} (h : DataW.LaidVars Tryd.prog W l ps) (hm : ("internal/strconv.uint64pow10", Rows.laid_internal_strconv_uint64pow10) ∈ l) : Pow W := by
  obtain ⟨g0, t0, cs0, f0, p0, hg0, ht0, hv0, hd0⟩ := var_of_laid h hm
  obtain rfl := Option.some.inj (gPow.symm.trans hg0)
  obtain rfl := Option.some.inj (tPow.symm.trans ht0)
  obtain ⟨xs, m1, rfl, hx1, hlen, hn3, hel⟩ := DataW.trod_array (show Tryd.prog.underlying 110 = some (.array 20 74) by kernel_rfl) hd0
  have c1 : Tryd.prog.cellsOf 74 = 1 := by kernel_rfl
  have c20 : Tryd.prog.cellsOf 110 = 20 := by kernel_rfl
  simp only [Prod.mk.injEq] at hx1
  have hlaid : (Rows.laid_internal_strconv_uint64pow10 : DataW Unit) = .agg (Lib.pow10Tab.map fun (n : Int) => DataW.lit (Lit.int .u64 n)) := by kernel_rfl
  have hxs := hx1.1
  rw [hlaid] at hxs
  injection hxs with hxs
  have hl20 : Lib.pow10Tab.length = 20 := Lib.pow10Tab_length
  unfold Pow Lib.TabIs
  rw [hv0]
  congr 1
  apply Array.toList_inj.1
  apply List.ext_getElem?
  intro j
  by_cases hj : j < 20
  · have hel := hel j hj
    rw [c1, Nat.mul_one, List.getElem?_eq_getElem (by omega)] at hel
    obtain ⟨z, e1, e2, e3⟩ := DataW.trod_int (show Tryd.prog.underlying 74 = some (.int .u64) by kernel_rfl) hel
    have hz : (xs.map (·.1))[j]? = some (.lit (.int .u64 z)) := by
      rw [List.getElem?_map, List.getElem?_eq_getElem (by omega), Option.map_some, e2]
    rw [← hxs, List.getElem?_map] at hz
    have h0 : ((cs0.toList.drop j).take 1)[0]? = some (.int .u64 z) := by rw [e1]; rfl
    have h1 : cs0.toList[j]? = some (.int .u64 z) := by simpa using h0
    rw [h1, List.getElem?_map]
    rw [List.getElem?_eq_getElem (by omega), Option.map_some] at hz ⊢
    simp only [Option.some.injEq, DataW.lit.injEq, Lit.int.injEq, true_and] at hz
    rw [hz]
  · rw [List.getElem?_eq_none (by omega), List.getElem?_eq_none (by simp [hl20]; omega)]
theorem pow_of_laid {W : World} (h : laidMetH Tryd.prog laidL W) : Pow W := by
  rw [MakeChecks.laidMetH_plain _ _ _ (by kernel_rfl)] at h
  obtain ⟨ps, hv, _⟩ := h
  exact pow_of_vars hv (by simp [laidL])
theorem pow_of_laid5 {W : World} (h : laidMetH Tryd.prog laidL5 W) : Pow W := by
  rw [MakeChecks.laidMetH_plain _ _ _ (by kernel_rfl)] at h
  obtain ⟨ps, hv, _⟩ := h
  exact pow_of_vars hv (by simp [laidL5])
section
variable {H : Type} {enc : TypeId × Value → H} {w : World} {base : Nat} {spare : Nat → Bool} {held : Bool}
theorem open_cell {v : Value} {d : DataW H} {ps : List MemPlace} {r : Reach} {b0 : Nat} (hv : Value.okWide Tryd.prog w r b0 23 v) (h : DataW.Trod enc Tryd.prog w base spare held 23 v d ps) :
    ∃ c : Cell, v = .agg #[.int .i64 c.1, .int .i64 c.2.1, .string c.2.2] ∧ cellQ c := by
  obtain ⟨cs, rfl, hsz⟩ := okWide_struct (show Tryd.prog.underlying 23 = some (.struct (fieldsOf Tryd.prog 23)) by kernel_rfl) hv
  obtain ⟨fuel, hf⟩ := h
  have hf' : DataW.trod enc Tryd.prog w base spare held fuel 23 cs.toList = some (d, ps) := hf
  obtain ⟨c, hc, q⟩ := dec_cell hf'
  refine ⟨c, ?_, q⟩
  congr 1
  apply Array.toList_inj.1
  rw [← hc]
  rfl
end
end Go.Proofs.YtlpniinmomhkcaaDoor.V
