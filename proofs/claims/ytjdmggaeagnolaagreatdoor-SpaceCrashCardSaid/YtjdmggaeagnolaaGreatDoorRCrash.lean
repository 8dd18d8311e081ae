/- The row of 'law13.SpaceCrash': what comes in, opened; the walk; what came in, read again. Printed by a program of mine (wip/tool/row.py), after the kit's shell. -/
import Derived.Test.YtjdmggaeagnolaaGreatDoorRows
import Derived.Test.YtjdmggaeagnolaaGreatDoorM1
import Derived.Test.YtjdmggaeagnolaaGreatDoorM2
import Derived.Test.YtjdmggaeagnolaaGreatDoorM6
import Derived.Test.YtjdmggaeagnolaaGreatDoorM7
namespace Go.Proofs.YtjdmggaeagnolaaGreatDoor.spaceCrashDone
open Go.ChangeShapes Go.WideShapes Go.ChangeAt Go.RowKit Go.Proofs.YtjdmggaeagnolaaGreatDoor.V
set_option linter.unusedVariables false
theorem own : ownKnob Tryz.prog.godebug = none := by kernel_rfl
theorem laidOut : laidOutB Tryz.prog = true := by kernel_rfl
set_option maxRecDepth 100000 in
theorem lifted (os : Os) (started : os.Started) (H : Type) (enc : TypeId × Value → H) :
    ReturnsInHanded {} Tryz.checked os 3 .any (fun w args => (Rows.spaceCrashSpec.pre enc Tryz.prog Tryz.f3 [] false w args ∧ laidMetH Tryz.prog laidL w) ∧ sizedMet enc Tryz.prog Tryz.f3 (OpenSpec.ofChange Rows.spaceCrashSpec) false w args) (Rows.spaceCrashSpec.post enc Tryz.prog Tryz.f3 false true false false) := by
  refine returnsInHanded_of_change_and (C := Tryz.checked) (X := fun w _ => laidMetH Tryz.prog laidL w) (fun _ _ _ hh h => h.of_heap hh) own started (by kernel_rfl) Tryz.func3
    (ChangeSpec.witness_shaped (enc := enc) (C := Tryz.checked) (os := os) (X := fun w _ => laidMetH Tryz.prog laidL w) false (World.doorLaid Tryz.prog 14 os) #[.agg #[.int .i64 0, .int .i64 0], .slice none 0 0, .int .i64 0, .slice none 0 0] 8 rfl (World.shaped_of_RefB (by kernel_rfl) (by kernel_rfl)) (by kernel_rfl) (by kernel_rfl) (by kernel_rfl) (door_met os _)) ?_
  intro W base args ds gs before hval0 hW _ _ hL _
  have hT := deB_of_laid hL
  have hval : ∀ (j : Nat) t v, Tryz.f3.params[j]? = some t → args[j]? = some v → Value.okWide Tryz.prog W .any base t v := hval0
  have hW' := hW
  obtain ⟨p, q, hA0, hV, rfl, hfz, hnd⟩ := hW
  have hA : DataW.TrodAll enc Tryz.prog W 0 (fun _ => true) true Tryz.f3.params.toList args.toList ds p := hA0
  rw [Tryz.params3] at hA hval
  obtain ⟨v0, vs0, d0, ds0, p0, q0, hargs, rfl, rfl, h0, r0⟩ := trodAll_cons hA
  obtain ⟨v1, vs1, d1, ds1, p1, q1, rfl, rfl, rfl, h1, r1⟩ := trodAll_cons r0
  obtain ⟨v2, vs2, d2, ds2, p2, q2, rfl, rfl, rfl, h2, r2⟩ := trodAll_cons r1
  obtain ⟨v3, vs3, d3, ds3, p3, q3, rfl, rfl, rfl, h3, r3⟩ := trodAll_cons r2
  obtain ⟨rfl, rfl, rfl⟩ := trodAll_nil r3
  obtain rfl : args = #[v0, v1, v2, v3] := by cases args; simp_all
  obtain ⟨rfl, rfl⟩ := trodVars_none hV
  have k0 := h0
  have lt0 : ∀ x ∈ p0, x.block < W.heap.size := by obtain ⟨m, hm⟩ := k0; exact DataW.trod_lt m _ _ _ hm
  have k1 := h1
  have lt1 : ∀ x ∈ p1, x.block < W.heap.size := by obtain ⟨m, hm⟩ := k1; exact DataW.trod_lt m _ _ _ hm
  have k2 := h2
  have lt2 : ∀ x ∈ p2, x.block < W.heap.size := by obtain ⟨m, hm⟩ := k2; exact DataW.trod_lt m _ _ _ hm
  have k3 := h3
  have lt3 : ∀ x ∈ p3, x.block < W.heap.size := by obtain ⟨m, hm⟩ := k3; exact DataW.trod_lt m _ _ _ hm
  obtain ⟨gs0, gb0, rfl, gsb0, gbb0⟩ := open_geo (hval 0 23 v0 rfl rfl) h0
  obtain ⟨A1, n1, c1, b1, rfl, s1, l1, q1⟩ := open_rows (E := actE) (Q := actQ) (e := 36) (show Tryz.prog.underlying 24 = _ by kernel_rfl) (by kernel_rfl) (fun n cs x h => dec_act h) (hval 1 24 v1 rfl rfl) h1
  obtain ⟨a2, rfl, _, _, wf2⟩ := open_int (k := .i64) (show Tryz.prog.underlying 3 = _ by kernel_rfl) (hval 2 3 v2 rfl rfl) h2
  have wb2 := nat_i64 wf2
  obtain ⟨A3, n3, c3, b3, rfl, s3, l3, q3⟩ := open_rows (E := pickE) (Q := fun p => (-9223372036854775808 ≤ p.1 ∧ p.1 < 9223372036854775808) ∧ p.2 < 18446744073709551616) (e := 56) (show Tryz.prog.underlying 25 = _ by kernel_rfl) (by kernel_rfl) (fun n cs x h => dec_pick h) (hval 3 25 v3 rfl rfl) h3
  clear hA0 hval0
  refine Calls.mono (crash_law hT s1 q1 wb2 s3 q3) ?_
  intro e W' hret
  obtain ⟨v, rfl, rfl, bel⟩ := ret_out hret
  exact ⟨_, rfl, _, _, _, [], _, [], hW', trodAll_mk1 (shut_bool (show Tryz.prog.underlying 4 = _ by kernel_rfl) _), (trodAll_cons_mk (Below.trod laidOut (by kernel_rfl) (of_decide_eq_true (by kernel_rfl)) k0 bel lt0) (trodAll_cons_mk (Below.trod laidOut (by kernel_rfl) (of_decide_eq_true (by kernel_rfl)) k1 bel lt1) (trodAll_cons_mk (Below.trod laidOut (by kernel_rfl) (of_decide_eq_true (by kernel_rfl)) k2 bel lt2) (trodAll_cons_mk (Below.trod laidOut (by kernel_rfl) (of_decide_eq_true (by kernel_rfl)) k3 bel lt3) trodAll_mk0)))), rfl, Below.frame bel _, fun h => by cases h⟩
theorem over : Rows.spaceCrashRow.holds Tryz.pinned (OpenSpec.ofChange Rows.spaceCrashSpec) :=
  OpenClaim.holds_of_wide 3 Tryz.f3 rfl rfl rfl rfl rfl rfl rfl ⟨rfl, rfl, rfl, rfl, rfl⟩ rfl rfl rfl rfl rfl (by kernel_rfl) Tryz.func3 (by kernel_rfl)
    (of_decide_eq_true (by kernel_rfl)) (by unfold Func.isWrapper; first | (rw [if_pos (by decide +kernel)]; kernel_rfl) | (rw [if_neg (by decide +kernel)]; exact ⟨rfl, rfl⟩))
    (fun os started H enc _ => lifted os started H enc)
set_option maxRecDepth 100000 in
theorem proved : Rows.SpaceCrashCardSaid :=
  Claim7.holds_tied_plain_at .later [] [.data] true (true, "4cdd1b7552014b570a0171fe5e959793ac2562d3f58ec8cd6400dea7ab9fba20") false
    over (fun _ h => by cases h) (by kernel_rfl) (fun _ h => by cases h) spaceCrash_row_tie rfl ⟨rfl, rfl⟩ (by kernel_rfl) rfl
    (fun f fn hf hfn => by
      obtain rfl : f = 3 := Option.some.inj ((show Tryz.prog.funcNamed "shadowbook/shadowbooklaw13.SpaceCrash" = some 3 by kernel_rfl).symm.trans hf) |>.symm
      obtain rfl : fn = Tryz.f3 := (Option.some.inj (Tryz.func3.symm.trans hfn)).symm
      exact ⟨by kernel_rfl, fun j t ht => by
        rw [Tryz.params3] at ht
        have hm : t ∈ ([23, 24, 3, 25] : List Nat) := by simpa using Array.mem_of_getElem? ht
        have hall : (([23, 24, 3, 25] : List Nat).all fun u => !Tryz.prog.wantsStandIn u) = true := by kernel_rfl
        exact (show Tryz.prog.wantsStandIn t = false by simpa using List.all_eq_true.1 hall t hm)⟩)
    (by kernel_rfl)
#print axioms proved
end Go.Proofs.YtjdmggaeagnolaaGreatDoor.spaceCrashDone
