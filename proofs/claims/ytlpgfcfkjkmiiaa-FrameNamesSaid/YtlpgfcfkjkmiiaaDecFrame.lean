/- Frames that came in, opened. -/
import Derived.Test.YtlpgfcfkjkmiiaaFr2
import Derived.Test.YtlpgfcfkjkmiiaaKFrame
set_option linter.unusedVariables false
set_option linter.unusedSimpArgs false
namespace Go.Proofs.Ytlpgfcfkjkmiiaa.V
open Go Go.ChangeShapes Go.WideShapes Go.ChangeAt Go.RowKit Go.Deep Go.Proofs
theorem n_u8 {z : Int} (h : (Lit.int .u8 z).wf = true) : ∃ b : UInt8, z = (b.toNat : Int) := by
  have := nat_u8 h
  refine ⟨UInt8.ofNat z.toNat, ?_⟩
  rw [UInt8.toNat_ofNat']
  omega
section
variable {H : Type} {enc : TypeId × Value → H} {w : World} {base : Nat} {spare : Nat → Bool} {held : Bool}
theorem open_frame {v : Value} {d : DataW H} {ps : List MemPlace} {r : Reach} {b0 : Nat} (hv : Value.okWide Try.prog w r b0 24 v) (h : DataW.Trod enc Try.prog w base spare held 24 v d ps) :
    ∃ f : Fra, v = .agg (fV f).toArray ∧ f.2.1 < 18446744073709551616 ∧ f.2.2.size ≤ 9223372036854775807 := by
  obtain ⟨cs, rfl, hsz⟩ := okWide_struct (show Try.prog.underlying 24 = some (.struct (fieldsOf Try.prog 24)) by kernel_rfl) hv
  obtain ⟨fuel, hf⟩ := h
  have hf' : DataW.trod enc Try.prog w base spare held fuel 24 cs.toList = some (d, ps) := hf
  obtain ⟨hl, m, hf2⟩ := dec_fields (ts := [5, 22, 9]) (by kernel_rfl) (by kernel_rfl) (by kernel_rfl) (by kernel_rfl) hf'
  obtain ⟨v0, y0, e0, h0⟩ := hf2 0 _ rfl
  obtain ⟨v1, y1, e1, h1⟩ := hf2 1 _ rfl
  obtain ⟨v2, y2, e2, h2⟩ := hf2 2 _ rfl
  obtain ⟨z0, hz0, hw0⟩ := dec_int (k := .u8) (by kernel_rfl) h0
  obtain ⟨z1, hz1, hw1⟩ := dec_int (k := .u64) (by kernel_rfl) h1
  obtain ⟨s, hs, hsl⟩ := dec_string (by kernel_rfl) h2
  cases hz0; cases hz1; cases hs
  obtain ⟨t, rfl⟩ := n_u8 hw0
  have hg := nat_u64 hw1
  refine ⟨(t, z1.toNat, s), ?_, by dsimp only; omega, by simpa [maxLen] using hsl⟩
  congr 1
  apply Array.toList_inj.1
  match hcs : cs.toList, hl with
  | [a, b, c], _ =>
    rw [hcs] at e0 e1 e2
    simp only [List.getElem?_cons_zero, List.getElem?_cons_succ, Option.some.injEq] at e0 e1 e2
    rw [e0, e1, e2]
    show _ = [Value.int .u8 (t.toNat : Int), Value.int .u64 ((z1.toNat : Nat) : Int), Value.string s]
    rw [show ((z1.toNat : Nat) : Int) = z1 by omega]
end
end Go.Proofs.Ytlpgfcfkjkmiiaa.V
