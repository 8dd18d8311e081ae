/- The library's two errors of this seat, as its listed variables hold them. -/
import Derived.Test.YtlpniinmomhkcaaDoorDoor
import Derived.Test.YtlpniinmomhkcaaDoorKTxt
import Derived.LaidLaws
set_option linter.unusedVariables false
set_option maxRecDepth 100000
namespace Go.Proofs.YtlpniinmomhkcaaDoor.V
open Go Go.Proofs Go.ChangeShapes Go.WideShapes Go.ChangeAt Go.WideMaps Go.WideElems Go.RowKit

theorem gSyn : Tryd.prog.globalNamed "strconv.ErrSyntax" = some 2 := by kernel_rfl
theorem tSyn : (Tryd.prog.globals[2]?).map (·.type) = some 78 := by kernel_rfl
theorem gRng : Tryd.prog.globalNamed "strconv.ErrRange" = some 3 := by kernel_rfl
theorem tRng : (Tryd.prog.globals[3]?).map (·.type) = some 78 := by kernel_rfl
theorem iErr : ∃ ms, Tryd.prog.underlying 78 = some (.interface ms) := ⟨_, Tryd.underlying78⟩
theorem sen_of_laid5 {W : World} (h : laidMetH Tryd.prog laidL5 W) : Sen W := by
  rw [MakeChecks.laidMetH_plain _ _ _ (by kernel_rfl)] at h
  obtain ⟨ps, hv, _⟩ := h
  obtain ⟨ms, hms⟩ := iErr
  obtain ⟨g1, t1, cs1, f1, p1, hg1, ht1, hv1, hd1⟩ := var_of_laid hv (show ("strconv.ErrSyntax", Rows.laid_strconv_ErrSyntax) ∈ laidL5 by simp [laidL5])
  obtain ⟨g2, t2, cs2, f2, p2, hg2, ht2, hv2, hd2⟩ := var_of_laid hv (show ("strconv.ErrRange", Rows.laid_strconv_ErrRange) ∈ laidL5 by simp [laidL5])
  obtain rfl := Option.some.inj (gSyn.symm.trans hg1)
  obtain rfl := Option.some.inj (gRng.symm.trans hg2)
  obtain rfl := Option.some.inj (tSyn.symm.trans ht1)
  obtain rfl := Option.some.inj (tRng.symm.trans ht2)
  obtain ⟨_, u1, v1, e1, _, _⟩ := iface_of_trod hms hd1
  obtain ⟨_, u2, v2, e2, _, _⟩ := iface_of_trod hms hd2
  have c1 := World.var?_cell hg1 hv1 0
  have c2 := World.var?_cell hg2 hv2 0
  have a1 : cs1[0]? = some (.iface u1 v1) := by rw [← Array.getElem?_toList, e1]; rfl
  have a2 : cs2[0]? = some (.iface u2 v2) := by rw [← Array.getElem?_toList, e2]; rfl
  exact ⟨⟨_, c1.trans a1, .inr ⟨_, _, rfl⟩⟩, _, c2.trans a2, .inr ⟨_, _, rfl⟩⟩
theorem both_of_laid5 {W : World} (h : laidMetH Tryd.prog laidL5 W) : Pow W ∧ Sen W := ⟨pow_of_laid5 h, sen_of_laid5 h⟩
end Go.Proofs.YtlpniinmomhkcaaDoor.V
