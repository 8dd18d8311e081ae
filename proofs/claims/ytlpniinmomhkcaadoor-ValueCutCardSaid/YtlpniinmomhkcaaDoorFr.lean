/- What comes in, opened. It speaks of no program. -/
import Derived.Test.YtlpniinmomhkcaaDoorH3
import Derived.Test.YtlpniinmomhkcaaDoorNum2
import Derived.WalkKit
import Derived.ProofKit
import Derived.OpenShut
import Derived.ShutString
import Derived.ChangeOld
import Derived.Carry
import Derived.Below
set_option linter.unusedVariables false
set_option linter.unusedSimpArgs false
namespace Go.Proofs.YtlpniinmomhkcaaDoor.V
open Go Go.ChangeShapes Go.WideShapes Go.ChangeAt Go.RowKit
section
variable {H : Type} {enc : TypeId × Value → H} {P : Program} {w : World} {base : Nat} {spare : Nat → Bool} {held : Bool}
theorem ret_out {K : Value → WP} {e : Ending} {w : World} (h : Ret K e w) : ∃ v, e = .returned v ∧ K v w := by
  cases e <;> first | exact ⟨_, rfl, h⟩ | exact absurd h id
theorem nat_u8 {z : Int} (h : (Lit.int .u8 z).wf = true) : 0 ≤ z ∧ z < 256 := by
  simp [Lit.wf, IntKind.min, IntKind.max, IntKind.signed, IntKind.bits] at h; omega
theorem nat_u16 {z : Int} (h : (Lit.int .u16 z).wf = true) : 0 ≤ z ∧ z < 65536 := by
  simp [Lit.wf, IntKind.min, IntKind.max, IntKind.signed, IntKind.bits] at h; omega
theorem nat_u32 {z : Int} (h : (Lit.int .u32 z).wf = true) : 0 ≤ z ∧ z < 4294967296 := by
  simp [Lit.wf, IntKind.min, IntKind.max, IntKind.signed, IntKind.bits] at h; omega
theorem nat_u64 {z : Int} (h : (Lit.int .u64 z).wf = true) : 0 ≤ z ∧ z < 18446744073709551616 := by
  simp [Lit.wf, IntKind.min, IntKind.max, IntKind.signed, IntKind.bits] at h; omega
theorem nat_i64 {z : Int} (h : (Lit.int .i64 z).wf = true) : -9223372036854775808 ≤ z ∧ z < 9223372036854775808 := by
  simp [Lit.wf, IntKind.min, IntKind.max, IntKind.signed, IntKind.bits] at h; omega
theorem bv_u32 {z : Int} (h : (Lit.int .u32 z).wf = true) : ∃ m : BitVec 32, z = (m.toNat : Int) := by
  have := nat_u32 h
  exact ⟨BitVec.ofNat 32 z.toNat, by rw [BitVec.toNat_ofNat, Nat.mod_eq_of_lt (by omega)]; omega⟩
/-- Bytes that came in. -/
theorem open_bytes {t e : TypeId} {v : Value} {d : DataW H} {ps : List MemPlace} {r : Reach} {b0 : Nat} (ht : P.underlying t = some (.slice e)) (he : P.underlying e = some (.int .u8)) (hc : P.cellsOf e = 1)
    (hv : Value.okWide P w r b0 t v) (h : DataW.Trod enc P w base (fun _ => true) held t v d ps) : ∃ A n c bs, v = .slice A n c ∧ Sl w A n (bV bs) ∧ n ≤ c := by
  obtain ⟨A, n, c, rfl⟩ := okWide_slice ht hv
  obtain ⟨fuel, hf⟩ := h
  rcases open_ints ht he hc hf with ⟨hcs, _⟩ | ⟨x, l, c', zs, hcs, _, hl, hm, hz, _, hcell, hwz⟩
  · simp [Value.cells] at hcs
    obtain ⟨rfl, rfl, rfl⟩ := hcs
    exact ⟨_, _, _, [], rfl, Sl.nil _ _, by omega⟩
  · simp [Value.cells] at hcs
    obtain ⟨rfl, rfl, rfl⟩ := hcs
    have hz : zs.length = c := by simpa using hz
    refine ⟨_, _, _, (zs.take n).map (fun z => UInt8.ofNat z.toNat), rfl, ⟨by simp [length_bV]; omega, by simp only [maxLen] at hm; omega, fun hn => ⟨_, rfl, fun j v hj => ?_⟩⟩, hl⟩
    have hj2 : j < n := by
      have := (List.getElem?_eq_some_iff.1 hj).1
      simp [length_bV] at this
      omega
    rw [hcell j (by omega)]
    simp only [bV, List.map_map, List.getElem?_map, List.getElem?_take, if_pos hj2] at hj
    rw [List.getElem?_eq_getElem (by omega)] at hj
    simp only [Option.map_some, Function.comp, Option.some.injEq] at hj
    rw [← hj]
    have hwf := nat_u8 (hwz _ (List.getElem_mem (show j < zs.length by omega)))
    rw [List.getD_eq_getElem?_getD, List.getElem?_eq_getElem (by omega)]
    simp only [Option.getD_some, UInt8.toNat_ofNat']
    congr 2
    omega
/-- An array of words that came in. -/
theorem open_words {t e : TypeId} {n : Nat} {v : Value} {d : DataW H} {ps : List MemPlace} {r : Reach} {b0 : Nat} (ht : P.underlying t = some (.array n e)) (he : P.underlying e = some (.int .u32)) (hc : P.cellsOf e = 1) (hn : P.cellsOf t = n)
    (hv : Value.okWide P w r b0 t v) (h : DataW.Trod enc P w base spare held t v d ps) : ∃ T : List (BitVec 32), T.length = n ∧ v = .agg (T.map fun t => Value.int .u32 (t.toNat : Int)).toArray := by
  obtain ⟨cs, rfl, hsz⟩ : ∃ cs, v = .agg cs ∧ cs.size = P.cellsOf t := by
    simp only [Value.okWide, ht] at hv
    obtain ⟨cs, h1, h2, _⟩ := hv
    exact ⟨cs, h1, h2⟩
  obtain ⟨fuel, hf⟩ := h
  obtain ⟨xs, m, _, hx, hlen, hl, hel⟩ := DataW.trod_array ht hf
  have hall : ∀ i, i < n → ∃ m : BitVec 32, cs.toList[i]? = some (.int .u32 (m.toNat : Int)) := by
    intro i hi
    have h1 := hel i hi
    rw [hc, Nat.mul_one, List.getElem?_eq_getElem (by omega)] at h1
    obtain ⟨z, e1, e2, e3⟩ := DataW.trod_int he h1
    obtain ⟨m, rfl⟩ := bv_u32 e3
    refine ⟨m, ?_⟩
    have h0 : ((cs.toList.drop i).take 1)[0]? = some (.int .u32 (m.toNat : Int)) := by
      have : (Value.agg cs).cells.toList = cs.toList := rfl
      rw [this] at e1
      rw [e1]; rfl
    simpa using h0
  refine ⟨(List.range n).map fun i => match cs.toList[i]? with | some (Value.int _ z) => BitVec.ofNat 32 z.toNat | _ => 0, by simp, ?_⟩
  congr 1
  apply Array.toList_inj.1
  apply List.ext_getElem?
  intro i
  rw [List.getElem?_map, List.getElem?_map]
  rcases Nat.lt_or_ge i n with hi | hi
  · obtain ⟨m, hm⟩ := hall i hi
    rw [List.getElem?_range hi]
    simp only [Option.map_some]
    rw [hm]
    simp
  · rw [List.getElem?_eq_none (by simp; omega), List.getElem?_eq_none (by simp; omega)]
    rfl
end
end Go.Proofs.YtlpniinmomhkcaaDoor.V
