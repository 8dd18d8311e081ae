/- The row of 'law26.SnapsApart': what comes in, opened; the walk; what came in, read again. Printed by a program of mine (wip/tool/row.py), after the kit's shell. -/
import Derived.Test.YtpagephahcnijaaGreatRows
import Derived.Test.YtpagephahcnijaaGreatM1
import Derived.Test.YtpagephahcnijaaGreatM7
namespace Go.Proofs.YtpagephahcnijaaGreat.snapsApartDone
open Go.ChangeShapes Go.WideShapes Go.ChangeAt Go.RowKit Go.Proofs.YtpagephahcnijaaGreat.V
set_option linter.unusedVariables false
theorem own : ownKnob Tryz.prog.godebug = none := by kernel_rfl
theorem laidOut : laidOutB Tryz.prog = true := by kernel_rfl
set_option maxRecDepth 100000 in
theorem lifted (os : Os) (started : os.Started) (H : Type) (enc : TypeId × Value -> H) :
  ReturnsInHanded {} Tryz.checked os 4 .any (Rows.snapsApartSpec.pre6 enc Tryz.prog Tryz.f4 Rows.snapsApartRow.domain false) (Rows.snapsApartSpec.post enc Tryz.prog Tryz.f4 false true false false) := by
 refine returnsInHanded_of_change (C := Tryz.checked) own started (by kernel_rfl) Tryz.func4
  (ChangeSpec.witness6 (enc := enc) (C := Tryz.checked) false ⟨#[], #[.slice none 0 0, .int .i64 0, .string ByteArray.empty, .string ByteArray.empty], []⟩ 8 (by kernel_rfl) (by kernel_rfl) (by kernel_rfl) (by kernel_rfl)) ?_
 intro W base args ds gs before hval0 hW hcnd _
 have hval : ∀ (j : Nat) t v, Tryz.f4.params[j]? = some t -> args[j]? = some v -> Value.okWide Tryz.prog W .any base t v := hval0
 have hW' := hW
 obtain ⟨p, q, hA0, hV, rfl, hfz, hnd⟩ := hW
 have hA : DataW.TrodAll enc Tryz.prog W 0 (fun _ => true) true Tryz.f4.params.toList args.toList ds p := hA0
 rw [Tryz.params4] at hA hval
 obtain ⟨v0, vs0, d0, ds0, p0, q0, hargs, rfl, rfl, h0, r0⟩ := trodAll_cons hA
 obtain ⟨v1, vs1, d1, ds1, p1, q1, rfl, rfl, rfl, h1, r1⟩ := trodAll_cons r0
 obtain ⟨v2, vs2, d2, ds2, p2, q2, rfl, rfl, rfl, h2, r2⟩ := trodAll_cons r1
 obtain ⟨v3, vs3, d3, ds3, p3, q3, rfl, rfl, rfl, h3, r3⟩ := trodAll_cons r2
 obtain ⟨rfl, rfl, rfl⟩ := trodAll_nil r3
 obtain rfl : args = #[v0, v1, v2, v3] := by cases args; simp_all
 obtain ⟨rfl, rfl⟩ := trodVars_none hV
 have k0 := h0
 have lt0 : ∀ x ∈ p0, x.block < W.heap.size := by obtain ⟨m, hm⟩ := k0; exact DataW.trod_lt m _ _ _ hm
 have k1 := h1
 have lt1 : ∀ x ∈ p1, x.block < W.heap.size := by obtain ⟨m, hm⟩ := k1; exact DataW.trod_lt m _ _ _ hm
 have k2 := h2
 have lt2 : ∀ x ∈ p2, x.block < W.heap.size := by obtain ⟨m, hm⟩ := k2; exact DataW.trod_lt m _ _ _ hm
 have k3 := h3
 have lt3 : ∀ x ∈ p3, x.block < W.heap.size := by obtain ⟨m, hm⟩ := k3; exact DataW.trod_lt m _ _ _ hm
 obtain ⟨A0, n0, c0, b0, rfl, s0, l0, q0⟩ := zlj (E := yI) (Q := fun s => s.size <= 9223372036854775807) (e := 9) (show Tryz.prog.underlying 22 = _ by kernel_rfl) (by kernel_rfl) (fun n cs x h => zmD (by kernel_rfl) h) (hval 0 22 v0 rfl rfl) h0
 obtain ⟨a1, rfl, _, _, wf1⟩ := open_int (k := .i64) (show Tryz.prog.underlying 3 = _ by kernel_rfl) (hval 1 3 v1 rfl rfl) h1
 have wb1 := zoV wf1
 obtain ⟨x2, rfl⟩ := okWide_string (show Tryz.prog.underlying 9 = _ by kernel_rfl) (hval 2 9 v2 rfl rfl)
 have sz2 : x2.size <= 9223372036854775807 := by obtain ⟨fuel, hf⟩ := h2; obtain ⟨s, e1, e2⟩ := zbP (show Tryz.prog.underlying 9 = _ by kernel_rfl) hf; simp only [Value.cells] at e1; cases e1; simpa [maxLen] using e2
 obtain ⟨x3, rfl⟩ := okWide_string (show Tryz.prog.underlying 9 = _ by kernel_rfl) (hval 3 9 v3 rfl rfl)
 have sz3 : x3.size <= 9223372036854775807 := by obtain ⟨fuel, hf⟩ := h3; obtain ⟨s, e1, e2⟩ := zbP (show Tryz.prog.underlying 9 = _ by kernel_rfl) hf; simp only [Value.cells] at e1; cases e1; simpa [maxLen] using e2
 clear hA0 hval0
 refine Calls.mono (zjm W s0 wb1.1 wb1.2 x2 x3) ?_
 intro e W' hret
 obtain ⟨v, rfl, rfl, bel⟩ := zoU hret
 exact ⟨_, rfl, _, _, _, [], _, [], hW', trodAll_mk1 (shut_bool (show Tryz.prog.underlying 4 = _ by kernel_rfl) _), (trodAll_cons_mk (Below.trod laidOut (by kernel_rfl) (of_decide_eq_true (by kernel_rfl)) k0 bel lt0) (trodAll_cons_mk (Below.trod laidOut (by kernel_rfl) (of_decide_eq_true (by kernel_rfl)) k1 bel lt1) (trodAll_cons_mk (Below.trod laidOut (by kernel_rfl) (of_decide_eq_true (by kernel_rfl)) k2 bel lt2) (trodAll_cons_mk (Below.trod laidOut (by kernel_rfl) (of_decide_eq_true (by kernel_rfl)) k3 bel lt3) trodAll_mk0)))), rfl, Below.frame bel _, fun h => by cases h⟩
theorem over : Rows.snapsApartRow.holds Tryz.pinned (OpenSpec.ofChange Rows.snapsApartSpec) :=
 OpenClaim.holds_of_wide 4 Tryz.f4 rfl rfl rfl rfl rfl rfl rfl ⟨rfl, rfl, rfl, rfl, rfl⟩ rfl rfl rfl rfl rfl (by kernel_rfl) Tryz.func4 (by kernel_rfl)
  (of_decide_eq_true (by kernel_rfl)) (by unfold Func.isWrapper; first | (rw [if_pos (by decide +kernel)]; kernel_rfl) | (rw [if_neg (by decide +kernel)]; exact ⟨rfl, rfl⟩))
  (fun os started H enc _ => lifted os started H enc)
theorem proved : Rows.SnapsApartSaid := over
#print axioms proved
end Go.Proofs.YtpagephahcnijaaGreat.snapsApartDone
