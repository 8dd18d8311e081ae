/- The row of 'law16.ValueCalls': what comes in, opened; the walk; what came in, read again. Printed by a program of mine (wip/tool/row.py), after the kit's shell. -/
import Derived.Test.YtlpniinmomhkcaaDoorRows
import Derived.Test.YtlpniinmomhkcaaDoorFr
import Derived.Test.YtlpniinmomhkcaaDoorDoor
import Derived.Test.YtlpniinmomhkcaaDoorDoor5
import Derived.Test.YtlpniinmomhkcaaDoorLC
namespace Go.Proofs.YtlpniinmomhkcaaDoor.valueCallsDone
open Go.ChangeShapes Go.WideShapes Go.ChangeAt Go.RowKit Go.Proofs.YtlpniinmomhkcaaDoor.V
set_option linter.unusedVariables false
theorem own : ownKnob Tryd.prog.godebug = none := by kernel_rfl
theorem laidOut : laidOutB Tryd.prog = true := by kernel_rfl
set_option maxRecDepth 100000 in
theorem lifted (os : Os) (started : os.Started) (H : Type) (enc : TypeId × Value → H) :
    ReturnsInHanded {} Tryd.checked os 8 .any (fun w args => (Rows.valueCallsSpec.pre enc Tryd.prog Tryd.f8 [] false w args ∧ laidMetH Tryd.prog laidL5 w) ∧ sizedMet enc Tryd.prog Tryd.f8 (OpenSpec.ofChange Rows.valueCallsSpec) false w args) (Rows.valueCallsSpec.post enc Tryd.prog Tryd.f8 false true false false) := by
  refine returnsInHanded_of_change_and (C := Tryd.checked) (X := fun w _ => laidMetH Tryd.prog laidL5 w) (fun _ _ _ hh h => h.of_heap hh) own started (by kernel_rfl) Tryd.func8
    (ChangeSpec.witness_shaped (enc := enc) (C := Tryd.checked) (os := os) (X := fun w _ => laidMetH Tryd.prog laidL5 w) false (World.doorLaid Tryd.prog 62 os) #[.slice none 0 0, .slice none 0 0, .string ByteArray.empty, .string ByteArray.empty] 8 rfl (World.shaped_of_RefB (by kernel_rfl) (by kernel_rfl)) (by kernel_rfl) (by kernel_rfl) (by kernel_rfl) (door_met5 os _)) ?_
  intro W base args ds gs before hval0 hW _ _ hL _
  have hT := both_of_laid5 hL
  have hval : ∀ (j : Nat) t v, Tryd.f8.params[j]? = some t → args[j]? = some v → Value.okWide Tryd.prog W .any base t v := hval0
  have hW' := hW
  obtain ⟨p, q, hA0, hV, rfl, hfz, hnd⟩ := hW
  have hA : DataW.TrodAll enc Tryd.prog W 0 (fun _ => true) true Tryd.f8.params.toList args.toList ds p := hA0
  rw [Tryd.params8] at hA hval
  obtain ⟨v0, vs0, d0, ds0, p0, q0, hargs, rfl, rfl, h0, r0⟩ := trodAll_cons hA
  obtain ⟨v1, vs1, d1, ds1, p1, q1, rfl, rfl, rfl, h1, r1⟩ := trodAll_cons r0
  obtain ⟨v2, vs2, d2, ds2, p2, q2, rfl, rfl, rfl, h2, r2⟩ := trodAll_cons r1
  obtain ⟨v3, vs3, d3, ds3, p3, q3, rfl, rfl, rfl, h3, r3⟩ := trodAll_cons r2
  obtain ⟨rfl, rfl, rfl⟩ := trodAll_nil r3
  obtain rfl : args = #[v0, v1, v2, v3] := by cases args; simp_all
  obtain ⟨rfl, rfl⟩ := trodVars_none hV
  have k0 := h0
  have lt0 : ∀ x ∈ p0, x.block < W.heap.size := by obtain ⟨m, hm⟩ := k0; exact DataW.trod_lt m _ _ _ hm
  have k1 := h1
  have lt1 : ∀ x ∈ p1, x.block < W.heap.size := by obtain ⟨m, hm⟩ := k1; exact DataW.trod_lt m _ _ _ hm
  have k2 := h2
  have lt2 : ∀ x ∈ p2, x.block < W.heap.size := by obtain ⟨m, hm⟩ := k2; exact DataW.trod_lt m _ _ _ hm
  have k3 := h3
  have lt3 : ∀ x ∈ p3, x.block < W.heap.size := by obtain ⟨m, hm⟩ := k3; exact DataW.trod_lt m _ _ _ hm
  obtain ⟨A0, n0, c0, b0, rfl, s0, l0, q0⟩ := open_rows (E := cellE) (Q := cellQ) (e := 23) (show Tryd.prog.underlying 27 = _ by kernel_rfl) (by kernel_rfl) (fun n cs x h => dec_cell h) (hval 0 27 v0 rfl rfl) h0
  obtain ⟨A1, n1, c1, b1, rfl, s1, l1, q1⟩ := open_rows (E := cellE) (Q := cellQ) (e := 23) (show Tryd.prog.underlying 27 = _ by kernel_rfl) (by kernel_rfl) (fun n cs x h => dec_cell h) (hval 1 27 v1 rfl rfl) h1
  obtain ⟨x2, rfl⟩ := okWide_string (show Tryd.prog.underlying 9 = _ by kernel_rfl) (hval 2 9 v2 rfl rfl)
  have sz2 : x2.size ≤ 9223372036854775807 := by obtain ⟨fuel, hf⟩ := h2; obtain ⟨s, e1, e2⟩ := dec_string (show Tryd.prog.underlying 9 = _ by kernel_rfl) hf; simp only [Value.cells] at e1; cases e1; simpa [maxLen] using e2
  obtain ⟨x3, rfl⟩ := okWide_string (show Tryd.prog.underlying 9 = _ by kernel_rfl) (hval 3 9 v3 rfl rfl)
  have sz3 : x3.size ≤ 9223372036854775807 := by obtain ⟨fuel, hf⟩ := h3; obtain ⟨s, e1, e2⟩ := dec_string (show Tryd.prog.underlying 9 = _ by kernel_rfl) hf; simp only [Value.cells] at e1; cases e1; simpa [maxLen] using e2
  clear hA0 hval0
  refine Calls.mono ((calls_calls hT.1 hT.2 s0 s1 q0 q1 x2 x3)) ?_
  intro e W' hret
  obtain ⟨v, rfl, rfl, bel⟩ := ret_out hret
  exact ⟨_, rfl, _, _, _, [], _, [], hW', trodAll_mk1 (shut_bool (show Tryd.prog.underlying 4 = _ by kernel_rfl) _), (trodAll_cons_mk (Below.trod laidOut (by kernel_rfl) (of_decide_eq_true (by kernel_rfl)) k0 bel lt0) (trodAll_cons_mk (Below.trod laidOut (by kernel_rfl) (of_decide_eq_true (by kernel_rfl)) k1 bel lt1) (trodAll_cons_mk (Below.trod laidOut (by kernel_rfl) (of_decide_eq_true (by kernel_rfl)) k2 bel lt2) (trodAll_cons_mk (Below.trod laidOut (by kernel_rfl) (of_decide_eq_true (by kernel_rfl)) k3 bel lt3) trodAll_mk0)))), rfl, Below.frame bel _, fun h => by cases h⟩
theorem over : Rows.valueCallsRow.holds Tryd.pinned (OpenSpec.ofChange Rows.valueCallsSpec) :=
  OpenClaim.holds_of_wide 8 Tryd.f8 rfl rfl rfl rfl rfl rfl rfl ⟨rfl, rfl, rfl, rfl, rfl⟩ rfl rfl rfl rfl rfl (by kernel_rfl) Tryd.func8 (by kernel_rfl)
    (of_decide_eq_true (by kernel_rfl)) (by unfold Func.isWrapper; first | (rw [if_pos (by decide +kernel)]; kernel_rfl) | (rw [if_neg (by decide +kernel)]; exact ⟨rfl, rfl⟩))
    (fun os started H enc _ => lifted os started H enc)
set_option maxRecDepth 100000 in
/-- The statement: the tied card. -/
theorem proved : Rows.ValueCallsCardSaid :=
  Claim7.holds_tied_plain_at .later [] [.data, .data, .data, .sentinel, .sentinel] true (true, "57581b152dac5f21ae862104e820b2e32655c08e806e4206ae3fab954775e927") true
    over (fun _ h => by cases h) (by kernel_rfl) (fun _ h => by cases h) valueCalls_row_tie rfl ⟨rfl, rfl⟩ (by kernel_rfl) rfl
    (fun f fn hf hfn => by
      obtain rfl : f = 8 := Option.some.inj ((show Tryd.prog.funcNamed "shadowbook/shadowbooklaw16.ValueCalls" = some 8 by kernel_rfl).symm.trans hf) |>.symm
      obtain rfl : fn = Tryd.f8 := (Option.some.inj (Tryd.func8.symm.trans hfn)).symm
      exact ⟨by kernel_rfl, fun j t ht => by
        rw [Tryd.params8] at ht
        have hm : t ∈ ([27, 27, 9, 9] : List Nat) := by simpa using Array.mem_of_getElem? ht
        have hall : (([27, 27, 9, 9] : List Nat).all fun u => !Tryd.prog.wantsStandIn u) = true := by kernel_rfl
        exact (show Tryd.prog.wantsStandIn t = false by simpa using List.all_eq_true.1 hall t hm)⟩)
    (by kernel_rfl)
#print axioms proved
end Go.Proofs.YtlpniinmomhkcaaDoor.valueCallsDone
