/- Supers that came in, opened. -/
import Derived.Test.YtiiemgndnpflbaaDecCounts
import Derived.Test.YtiiemgndnpflbaaDecMore
import Derived.Test.YtiiemgndnpflbaaKSuper1
set_option linter.unusedVariables false
set_option linter.unusedSimpArgs false
namespace Go.Proofs.Ytiiemgndnpflbaa.V
open Go Go.ChangeShapes Go.WideShapes Go.ChangeAt Go.RowKit Go.Deep Go.Proofs
section
variable {H : Type} {enc : TypeId × Value → H} {P : Program} {w : World} {base : Nat} {spare : Nat → Bool} {held : Bool} {α : Type}
/-- A slice of rows in a field. -/
theorem open_rowsC {E : Enc α} {Q : α → Prop} {t e : TypeId} {fuel : Nat} {cs : List Value} {x : DataW H × List MemPlace} (ht : P.underlying t = some (.slice e)) (hC : P.cellsOf e = E.k)
    (hdec : ∀ (n : Nat) (cs' : List Value) (x' : DataW H × List MemPlace), DataW.trod enc P w base (fun _ => true) held n e cs' = some x' → ∃ x : α, E.f x = cs' ∧ Q x)
    (hf : DataW.trod enc P w base (fun _ => true) held fuel t cs = some x) : ∃ A n c xs, cs = [.slice A n c] ∧ Sli E w A n xs ∧ n ≤ c ∧ ∀ x ∈ xs, Q x := by
  rcases open_slice ht hf with ⟨hcs, _⟩ | ⟨a, len, cap, m, k, D, Pl, hcs, hb, hl, hm, hmm, hx, hi⟩
  · exact ⟨_, _, _, [], hcs, Sli.nil _ _, by omega, fun x hx => by cases hx⟩
  · have hmc : m = cap := by simpa using hmm
    have hall : ∀ i, i < len → ∃ x : α, (∀ (j : Nat) (u : Value), (E.f x)[j]? = some u → w.cell? ((a.add (i * E.k)).add j) = some u) ∧ Q x := by
      intro i hin
      obtain ⟨cs', hc, ht'⟩ := hi i (by omega)
      obtain ⟨x, hxe, hq⟩ := hdec k cs' _ ht'
      obtain ⟨_, hcl, hat⟩ := World.cells?_some hc
      rw [hC] at hcl hat
      refine ⟨x, fun j u hj => ?_, hq⟩
      have hjk : j < E.k := by have := (List.getElem?_eq_some_iff.1 hj).1; rw [E.len] at this; exact this
      rw [hat j hjk, ← hxe]
      exact hj
    obtain ⟨xs, hxl, hxs⟩ := exists_list len hall
    refine ⟨_, _, _, xs, hcs, ⟨hxl, by simp only [maxLen] at hm; omega, fun hn => ⟨a, rfl, ?_, ?_⟩⟩, hl, fun x hx => ?_⟩
    · have h0 := hxs 0 xs[0] (List.getElem?_eq_getElem (by omega))
      have h1 := h0.1 0 ((E.f xs[0])[0]'(by rw [E.len]; exact E.pos)) (List.getElem?_eq_getElem _)
      rw [show a.add (0 * E.k) = a by rw [Nat.zero_mul]; simp [Addr.add], show a.add 0 = a by simp [Addr.add]] at h1
      exact spot_of_cell h1
    · intro j u hj
      have hjl : j < (E.flat xs).length := (List.getElem?_eq_some_iff.1 hj).1
      rw [E.flat_length] at hjl
      have hdm := Nat.div_add_mod j E.k
      have hmod := Nat.mod_lt j E.pos
      have hdiv : j / E.k < xs.length := Nat.div_lt_of_lt_mul (by rw [Nat.mul_comm]; exact hjl)
      rw [← hdm, Nat.mul_comm, E.flat_get _ _ _ hmod, List.getElem?_eq_getElem hdiv] at hj
      have := (hxs _ _ (List.getElem?_eq_getElem hdiv)).1 (j % E.k) u hj
      rw [Go.Deep.add_add] at this
      rw [← hdm, Nat.mul_comm]
      exact this
    · obtain ⟨i, hi', rfl⟩ := List.mem_iff_getElem.1 hx
      exact (hxs i _ (List.getElem?_eq_getElem hi')).2
/-- A field of a struct. -/
theorem dec_field {t : TypeId} {n : Nat} {cs : List Value} {x : DataW H × List MemPlace} (i o k : Nat) (u : TypeId) (ht : P.underlying t = some (.struct (fieldsOf P t)))
    (hf : ((fieldsOf P t)[i]?.map fun f => (f.type, f.offset, P.cellsOf f.type)) = some (u, o, k)) (h : DataW.trod enc P w base spare held n t cs = some x) :
    cs.length = P.cellsOf t ∧ ∃ (m : Nat) (y : DataW H × List MemPlace), DataW.trod enc P w base spare held m u ((cs.drop o).take k) = some y := by
  obtain ⟨xs, m, _, hx, hcl, hlen, hg⟩ := DataW.trod_struct ht h
  obtain ⟨f, hf1, hf2⟩ := Option.map_eq_some_iff.1 hf
  injection hf2 with e1 e2
  injection e2 with e2 e3
  subst e1 e2 e3
  have hi : i < xs.length := by rw [hlen]; exact (Array.getElem?_eq_some_iff.1 hf1).1
  exact ⟨hcl, m, xs[i], by rw [hg i f hf1, List.getElem?_eq_getElem hi]⟩
end
section
variable {H : Type} {enc : TypeId × Value → H} {w : World} {base : Nat} {held : Bool}
theorem open_super {v : Value} {d : DataW H} {ps : List MemPlace} {r : Reach} {b0 : Nat} (hv : Value.okWide Try.prog w r b0 28 v) (h : DataW.Trod enc Try.prog w base (fun _ => true) held 28 v d ps) :
    ∃ (s : Sup) (x : SLC), v = .agg (sV s x).toArray ∧ s.Fits ∧ Pg w x s.pages := by
  obtain ⟨cs, rfl, hsz⟩ := okWide_struct (show Try.prog.underlying 28 = some (.struct (fieldsOf Try.prog 28)) by kernel_rfl) hv
  obtain ⟨fuel, hf⟩ := h
  have hf' : DataW.trod enc Try.prog w base (fun _ => true) held fuel 28 cs.toList = some (d, ps) := hf
  obtain ⟨hl, m0, y0, h0⟩ := dec_field 0 0 1 22 (by kernel_rfl) (by kernel_rfl) hf'
  obtain ⟨_, m1, y1, h1⟩ := dec_field 1 1 2 24 (by kernel_rfl) (by kernel_rfl) hf'
  obtain ⟨_, m2, y2, h2⟩ := dec_field 2 3 1 25 (by kernel_rfl) (by kernel_rfl) hf'
  obtain ⟨_, m3, y3, h3⟩ := dec_field 3 4 1 26 (by kernel_rfl) (by kernel_rfl) hf'
  have hl5 : cs.toList.length = 5 := hl.trans (by kernel_rfl)
  match hcs : cs.toList, hl5 with
  | [a, b, c, e, g], _ =>
    rw [hcs] at h0 h1 h2 h3
    obtain ⟨z0, hz0, hw0⟩ := dec_int (k := .u64) (by kernel_rfl) h0
    obtain ⟨hl1, n1, hf1⟩ := dec_fields (ts := [3, 3]) (by kernel_rfl) (by kernel_rfl) (by kernel_rfl) (by kernel_rfl) h1
    obtain ⟨v10, y10, e10, h10⟩ := hf1 0 _ rfl
    obtain ⟨v11, y11, e11, h11⟩ := hf1 1 _ rfl
    obtain ⟨z10, hz10, hw10⟩ := dec_int (k := .i64) (by kernel_rfl) h10
    obtain ⟨z11, hz11, hw11⟩ := dec_int (k := .i64) (by kernel_rfl) h11
    obtain ⟨z2, hz2, hw2⟩ := dec_u32E (by kernel_rfl) h2
    obtain ⟨A, n, cc, xs, hz3, hsl, hnc, hq⟩ := open_rowsC (e := 25) (E := numE .u32) (Q := fun z => z < 4294967296) (by kernel_rfl) (by kernel_rfl) (fun n cs x h => dec_u32E (by kernel_rfl) h) h3
    cases hz0
    cases hz10
    cases hz11
    cases hz3
    have hg0 := nat_u64 hw0
    have f10 : b = .int .i64 z10 := by simpa using e10
    have f11 : c = .int .i64 z11 := by simpa using e11
    have f2 : e = .int .u32 (z2 : Int) := by
      have := hz2.symm
      simpa [numE] using this
    subst f10 f11 f2
    refine ⟨⟨z0.toNat, z10, z11, z2, xs⟩, (A, n, cc), ?_, ⟨by dsimp only; omega, nat_i64 hw10, nat_i64 hw11, hw2, hq⟩, hsl, hnc⟩
    congr 1
    apply Array.toList_inj.1
    rw [hcs]
    show _ = [Value.int .u64 ((z0.toNat : Nat) : Int), Value.int .i64 z10, Value.int .i64 z11, Value.int .u32 (z2 : Int), Value.slice A n cc]
    rw [show ((z0.toNat : Nat) : Int) = z0 by omega]
end
end Go.Proofs.Ytiiemgndnpflbaa.V
