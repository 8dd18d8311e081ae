/- The row of 'law24.CatalogCalls': what comes in, opened; the walk; what came in, read again. Printed by a program of mine (wip/tool/row.py), after the kit's shell. -/
import Derived.Test.YtplgodmmmppmeaaGreatRows
import Derived.Test.YtplgodmmmppmeaaGreatM1
import Derived.Test.YtplgodmmmppmeaaGreatM4
import Derived.Test.YtplgodmmmppmeaaGreatM7
namespace Go.Proofs.YtplgodmmmppmeaaGreat.catalogCallsDone
open Go.ChangeShapes Go.WideShapes Go.ChangeAt Go.RowKit Go.Proofs.YtplgodmmmppmeaaGreat.V
set_option linter.unusedVariables false
theorem own : ownKnob Tryz.prog.godebug = none := by kernel_rfl
theorem laidOut : laidOutB Tryz.prog = true := by kernel_rfl
set_option maxRecDepth 100000 in
theorem lifted (os : Os) (started : os.Started) (H : Type) (enc : TypeId × Value -> H) :
  ReturnsInHanded {} Tryz.checked os 4 .any (Rows.catalogCallsSpec.pre6 enc Tryz.prog Tryz.f4 Rows.catalogCallsRow.domain false) (Rows.catalogCallsSpec.post enc Tryz.prog Tryz.f4 false true false false) := by
 refine returnsInHanded_of_change (C := Tryz.checked) own started (by kernel_rfl) Tryz.func4
  (ChangeSpec.witness6 (enc := enc) (C := Tryz.checked) false ⟨#[], #[.agg #[.slice none 0 0, .slice none 0 0], .string ByteArray.empty, .string ByteArray.empty], []⟩ 8 (by kernel_rfl) (by kernel_rfl) (by kernel_rfl) (by kernel_rfl)) ?_
 intro W base args ds gs before hval0 hW hcnd _
 have hval : ∀ (j : Nat) t v, Tryz.f4.params[j]? = some t -> args[j]? = some v -> Value.okWide Tryz.prog W .any base t v := hval0
 have hW' := hW
 obtain ⟨p, q, hA0, hV, rfl, hfz, hnd⟩ := hW
 have hA : DataW.TrodAll enc Tryz.prog W 0 (fun _ => true) true Tryz.f4.params.toList args.toList ds p := hA0
 rw [Tryz.params4] at hA hval
 obtain ⟨v0, vs0, d0, ds0, p0, q0, hargs, rfl, rfl, h0, r0⟩ := trodAll_cons hA
 obtain ⟨v1, vs1, d1, ds1, p1, q1, rfl, rfl, rfl, h1, r1⟩ := trodAll_cons r0
 obtain ⟨v2, vs2, d2, ds2, p2, q2, rfl, rfl, rfl, h2, r2⟩ := trodAll_cons r1
 obtain ⟨rfl, rfl, rfl⟩ := trodAll_nil r2
 obtain rfl : args = #[v0, v1, v2] := by cases args; simp_all
 obtain ⟨rfl, rfl⟩ := trodVars_none hV
 have k0 := h0
 have lt0 : ∀ x ∈ p0, x.block < W.heap.size := by obtain ⟨m, hm⟩ := k0; exact DataW.trod_lt m _ _ _ hm
 have k1 := h1
 have lt1 : ∀ x ∈ p1, x.block < W.heap.size := by obtain ⟨m, hm⟩ := k1; exact DataW.trod_lt m _ _ _ hm
 have k2 := h2
 have lt2 : ∀ x ∈ p2, x.block < W.heap.size := by obtain ⟨m, hm⟩ := k2; exact DataW.trod_lt m _ _ _ hm
 obtain ⟨c0, X0, Y0, rfl, hc0, hf0⟩ := zna (hval 0 25 v0 rfl rfl) h0
 obtain ⟨x1, rfl⟩ := okWide_string (show Tryz.prog.underlying 9 = _ by kernel_rfl) (hval 1 9 v1 rfl rfl)
 have sz1 : x1.size <= 9223372036854775807 := by obtain ⟨fuel, hf⟩ := h1; obtain ⟨s, e1, e2⟩ := vc (show Tryz.prog.underlying 9 = _ by kernel_rfl) hf; simp only [Value.cells] at e1; cases e1; simpa [maxLen] using e2
 obtain ⟨x2, rfl⟩ := okWide_string (show Tryz.prog.underlying 9 = _ by kernel_rfl) (hval 2 9 v2 rfl rfl)
 have sz2 : x2.size <= 9223372036854775807 := by obtain ⟨fuel, hf⟩ := h2; obtain ⟨s, e1, e2⟩ := vc (show Tryz.prog.underlying 9 = _ by kernel_rfl) hf; simp only [Value.cells] at e1; cases e1; simpa [maxLen] using e2
 clear hA0 hval0
 refine Calls.mono (zia W hc0 x1 x2) ?_
 intro e W' hret
 obtain ⟨v, rfl, rfl, bel⟩ := znX hret
 exact ⟨_, rfl, _, _, _, [], _, [], hW', trodAll_mk1 (shut_bool (show Tryz.prog.underlying 4 = _ by kernel_rfl) _), (trodAll_cons_mk (Below.trod laidOut (by kernel_rfl) (of_decide_eq_true (by kernel_rfl)) k0 bel lt0) (trodAll_cons_mk (Below.trod laidOut (by kernel_rfl) (of_decide_eq_true (by kernel_rfl)) k1 bel lt1) (trodAll_cons_mk (Below.trod laidOut (by kernel_rfl) (of_decide_eq_true (by kernel_rfl)) k2 bel lt2) trodAll_mk0))), rfl, Below.frame bel _, fun h => by cases h⟩
theorem over : Rows.catalogCallsRow.holds Tryz.pinned (OpenSpec.ofChange Rows.catalogCallsSpec) :=
 OpenClaim.holds_of_wide 4 Tryz.f4 rfl rfl rfl rfl rfl rfl rfl ⟨rfl, rfl, rfl, rfl, rfl⟩ rfl rfl rfl rfl rfl (by kernel_rfl) Tryz.func4 (by kernel_rfl)
  (of_decide_eq_true (by kernel_rfl)) (by unfold Func.isWrapper; first | (rw [if_pos (by decide +kernel)]; kernel_rfl) | (rw [if_neg (by decide +kernel)]; exact ⟨rfl, rfl⟩))
  (fun os started H enc _ => lifted os started H enc)
theorem proved : Rows.CatalogCallsSaid := over
#print axioms proved
end Go.Proofs.YtplgodmmmppmeaaGreat.catalogCallsDone
