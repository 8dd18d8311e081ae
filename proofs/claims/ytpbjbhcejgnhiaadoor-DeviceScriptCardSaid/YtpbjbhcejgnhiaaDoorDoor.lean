/- The listed variable of this seat, opened; the door's own heap. -/
import Derived.Test.YtpbjbhcejgnhiaaDoorRows
import Derived.Test.YtpbjbhcejgnhiaaDoorCards
import Derived.Test.YtpbjbhcejgnhiaaDoorTie
import Derived.Test.YtpbjbhcejgnhiaaDoorKDev7
import Derived.ProofKit
import Derived.LaidMore
import Derived.OpenShut
import Derived.Stop.Joined
import Derived.SevenTiedAt
set_option linter.unusedVariables false
namespace Go.Proofs.YtpbjbhcejgnhiaaDoor.V
open Go Go.Proofs Go.ChangeShapes Go.WideShapes Go.ChangeAt Go.WideMaps Go.WideElems Go.RowKit

def laidL : List (String × DataW Unit) := [("math/bits.deBruijn64tab", Rows.laid_math_bits_deBruijn64tab)]
theorem gTab : Tryd.prog.globalNamed "math/bits.deBruijn64tab" = some 0 := by kernel_rfl
theorem tTab : (Tryd.prog.globals[0]?).map (·.type) = some 108 := by kernel_rfl
theorem door_met (os : Os) (args : Array Value) : laidMetH Tryd.prog laidL ((World.doorLaid Tryd.prog 14 os).forCall (fun _ _ => 0) ⟨#[], args, []⟩).memory :=
  laidMetH_of_parts3 (fuel := 8) (laidMet_of_run' 8 (by kernel_rfl) (by kernel_rfl)) (by kernel_rfl) (by kernel_rfl)
theorem deB_of_laid {W : World} (h : laidMetH Tryd.prog laidL W) : DeB W := by
  rw [MakeChecks.laidMetH_plain _ _ _ (by kernel_rfl)] at h
  obtain ⟨ps, ⟨g0, t0, cs0, f0, p0, q0, hg0, ht0, hv0, hd0, _, _⟩, _, _⟩ := h
  obtain rfl := Option.some.inj (gTab.symm.trans hg0)
  obtain rfl := Option.some.inj (tTab.symm.trans ht0)
  obtain ⟨xs, m1, rfl, hx1, hlen, hn3, hel⟩ := DataW.trod_array (show Tryd.prog.underlying 108 = some (.array 64 5) by kernel_rfl) hd0
  have c1 : Tryd.prog.cellsOf 5 = 1 := by kernel_rfl
  have c64 : Tryd.prog.cellsOf 108 = 64 := by kernel_rfl
  simp only [Prod.mk.injEq] at hx1
  have hlaid : (Rows.laid_math_bits_deBruijn64tab : DataW Unit) = .agg (Lib.deBruijn64tab.map fun (n : Nat) => DataW.lit (Lit.int .u8 (n : Int))) := by rfl
  have hxs := hx1.1
  rw [hlaid] at hxs
  injection hxs with hxs
  intro j hj
  have hel := hel j hj
  rw [c1, Nat.mul_one, List.getElem?_eq_getElem (by omega)] at hel
  obtain ⟨z, e1, e2, e3⟩ := DataW.trod_int (show Tryd.prog.underlying 5 = some (.int .u8) by kernel_rfl) hel
  have hz : (xs.map (·.1))[j]? = some (.lit (.int .u8 z)) := by
    rw [List.getElem?_map, List.getElem?_eq_getElem (by omega), Option.map_some, e2]
  have hl64 : Lib.deBruijn64tab.length = 64 := by decide
  rw [← hxs, List.getElem?_map, List.getElem?_eq_getElem (by omega)] at hz
  simp only [Option.map_some, Option.some.injEq, DataW.lit.injEq, Lit.int.injEq, true_and] at hz
  have hcell := World.var?_cell hg0 hv0 j
  rw [hcell, List.getD_eq_getElem?_getD, List.getElem?_eq_getElem (by omega), Option.getD_some, hz]
  have h0 : ((cs0.toList.drop j).take 1)[0]? = some (.int .u8 z) := by rw [e1]; rfl
  simpa using h0
end Go.Proofs.YtpbjbhcejgnhiaaDoor.V
