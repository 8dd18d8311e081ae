/- The row of 'law24.CatalogNames': what comes in, opened; the walk; what came in, read again. Printed by a program of mine (wip/tool/row.py), after the kit's shell. -/
import Derived.Test.YtplgodmmmppmeaaGreatRows
import Derived.Test.YtplgodmmmppmeaaGreatM1
import Derived.Test.YtplgodmmmppmeaaGreatM6
namespace Go.Proofs.YtplgodmmmppmeaaGreat.catalogNamesDone
open Go.ChangeShapes Go.WideShapes Go.ChangeAt Go.RowKit Go.Proofs.YtplgodmmmppmeaaGreat.V
set_option linter.unusedVariables false
theorem own : ownKnob Tryz.prog.godebug = none := by kernel_rfl
set_option maxRecDepth 100000 in
theorem lifted (os : Os) (started : os.Started) (H : Type) (enc : TypeId × Value -> H) :
  ReturnsInHanded {} Tryz.checked os 6 .any (Rows.catalogNamesSpec.pre6 enc Tryz.prog Tryz.f6 Rows.catalogNamesRow.domain false) (Rows.catalogNamesSpec.post enc Tryz.prog Tryz.f6 false true false false) := by
 refine returnsInHanded_of_change (C := Tryz.checked) own started (by kernel_rfl) Tryz.func6
  (ChangeSpec.witness6 (enc := enc) (C := Tryz.checked) false ⟨#[], #[], []⟩ 8 (by kernel_rfl) (by kernel_rfl) (by kernel_rfl) (by kernel_rfl)) ?_
 intro W base args ds gs before hval0 hW hcnd _
 have hval : ∀ (j : Nat) t v, Tryz.f6.params[j]? = some t -> args[j]? = some v -> Value.okWide Tryz.prog W .any base t v := hval0
 have hW' := hW
 obtain ⟨p, q, hA0, hV, rfl, hfz, hnd⟩ := hW
 have hA : DataW.TrodAll enc Tryz.prog W 0 (fun _ => true) true Tryz.f6.params.toList args.toList ds p := hA0
 rw [Tryz.params6] at hA hval
 obtain ⟨hargs, rfl, rfl⟩ := trodAll_nil hA
 obtain rfl : args = #[] := by cases args; simp_all
 obtain ⟨rfl, rfl⟩ := trodVars_none hV
 clear hA0 hval0
 refine Calls.mono (zhx W) ?_
 intro e W' hret
 obtain ⟨v, rfl, rfl, bel⟩ := znp hret
 exact ⟨_, rfl, _, _, _, [], _, [], hW', trodAll_mk1 (shut_bool (show Tryz.prog.underlying 4 = _ by kernel_rfl) _), trodAll_mk0, rfl, Below.frame bel _, fun h => by cases h⟩
theorem over : Rows.catalogNamesRow.holds Tryz.pinned (OpenSpec.ofChange Rows.catalogNamesSpec) :=
 OpenClaim.holds_of_wide 6 Tryz.f6 rfl rfl rfl rfl rfl rfl rfl ⟨rfl, rfl, rfl, rfl, rfl⟩ rfl rfl rfl rfl rfl (by kernel_rfl) Tryz.func6 (by kernel_rfl)
  (of_decide_eq_true (by kernel_rfl)) (by unfold Func.isWrapper; first | (rw [if_pos (by decide +kernel)]; kernel_rfl) | (rw [if_neg (by decide +kernel)]; exact ⟨rfl, rfl⟩))
  (fun os started H enc _ => lifted os started H enc)
theorem proved : Rows.CatalogNamesSaid := over
#print axioms proved
end Go.Proofs.YtplgodmmmppmeaaGreat.catalogNamesDone
