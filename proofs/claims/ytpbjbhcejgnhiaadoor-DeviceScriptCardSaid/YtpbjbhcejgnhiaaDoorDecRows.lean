/- Slices of rows in fields; fields of structs: opened. -/
import Derived.Test.YtpbjbhcejgnhiaaDoorDecCounts
import Derived.Test.YtpbjbhcejgnhiaaDoorDecMore
set_option linter.unusedVariables false
set_option linter.unusedSimpArgs false
namespace Go.Proofs.YtpbjbhcejgnhiaaDoor.V
open Go Go.ChangeShapes Go.WideShapes Go.ChangeAt Go.RowKit Go.Deep Go.Proofs
section
variable {H : Type} {enc : TypeId × Value → H} {P : Program} {w : World} {base : Nat} {spare : Nat → Bool} {held : Bool} {α : Type}
/-- A slice of rows in a field. -/
theorem open_rowsC {E : Enc α} {Q : α → Prop} {t e : TypeId} {fuel : Nat} {cs : List Value} {x : DataW H × List MemPlace} (ht : P.underlying t = some (.slice e)) (hC : P.cellsOf e = E.k)
    (hdec : ∀ (n : Nat) (cs' : List Value) (x' : DataW H × List MemPlace), DataW.trod enc P w base (fun _ => true) held n e cs' = some x' → ∃ x : α, E.f x = cs' ∧ Q x)
    (hf : DataW.trod enc P w base (fun _ => true) held fuel t cs = some x) : ∃ A n c xs, cs = [.slice A n c] ∧ Sli E w A n xs ∧ n ≤ c ∧ ∀ x ∈ xs, Q x := by
  rcases open_slice ht hf with ⟨hcs, _⟩ | ⟨a, len, cap, m, k, D, Pl, hcs, hb, hl, hm, hmm, hx, hi⟩
  · exact ⟨_, _, _, [], hcs, Sli.nil _ _, by omega, fun x hx => by cases hx⟩
  · have hmc : m = cap := by simpa using hmm
    have hall : ∀ i, i < len → ∃ x : α, (∀ (j : Nat) (u : Value), (E.f x)[j]? = some u → w.cell? ((a.add (i * E.k)).add j) = some u) ∧ Q x := by
      intro i hin
      obtain ⟨cs', hc, ht'⟩ := hi i (by omega)
      obtain ⟨x, hxe, hq⟩ := hdec k cs' _ ht'
      obtain ⟨_, hcl, hat⟩ := World.cells?_some hc
      rw [hC] at hcl hat
      refine ⟨x, fun j u hj => ?_, hq⟩
      have hjk : j < E.k := by have := (List.getElem?_eq_some_iff.1 hj).1; rw [E.len] at this; exact this
      rw [hat j hjk, ← hxe]
      exact hj
    obtain ⟨xs, hxl, hxs⟩ := exists_list len hall
    refine ⟨_, _, _, xs, hcs, ⟨hxl, by simp only [maxLen] at hm; omega, fun hn => ⟨a, rfl, ?_, ?_⟩⟩, hl, fun x hx => ?_⟩
    · have h0 := hxs 0 xs[0] (List.getElem?_eq_getElem (by omega))
      have h1 := h0.1 0 ((E.f xs[0])[0]'(by rw [E.len]; exact E.pos)) (List.getElem?_eq_getElem _)
      rw [show a.add (0 * E.k) = a by rw [Nat.zero_mul]; simp [Addr.add], show a.add 0 = a by simp [Addr.add]] at h1
      exact spot_of_cell h1
    · intro j u hj
      have hjl : j < (E.flat xs).length := (List.getElem?_eq_some_iff.1 hj).1
      rw [E.flat_length] at hjl
      have hdm := Nat.div_add_mod j E.k
      have hmod := Nat.mod_lt j E.pos
      have hdiv : j / E.k < xs.length := Nat.div_lt_of_lt_mul (by rw [Nat.mul_comm]; exact hjl)
      rw [← hdm, Nat.mul_comm, E.flat_get _ _ _ hmod, List.getElem?_eq_getElem hdiv] at hj
      have := (hxs _ _ (List.getElem?_eq_getElem hdiv)).1 (j % E.k) u hj
      rw [Go.Deep.add_add] at this
      rw [← hdm, Nat.mul_comm]
      exact this
    · obtain ⟨i, hi', rfl⟩ := List.mem_iff_getElem.1 hx
      exact (hxs i _ (List.getElem?_eq_getElem hi')).2
/-- A field of a struct. -/
theorem dec_field {t : TypeId} {n : Nat} {cs : List Value} {x : DataW H × List MemPlace} (i o k : Nat) (u : TypeId) (ht : P.underlying t = some (.struct (fieldsOf P t)))
    (hf : ((fieldsOf P t)[i]?.map fun f => (f.type, f.offset, P.cellsOf f.type)) = some (u, o, k)) (h : DataW.trod enc P w base spare held n t cs = some x) :
    cs.length = P.cellsOf t ∧ ∃ (m : Nat) (y : DataW H × List MemPlace), DataW.trod enc P w base spare held m u ((cs.drop o).take k) = some y := by
  obtain ⟨xs, m, _, hx, hcl, hlen, hg⟩ := DataW.trod_struct ht h
  obtain ⟨f, hf1, hf2⟩ := Option.map_eq_some_iff.1 hf
  injection hf2 with e1 e2
  injection e2 with e2 e3
  subst e1 e2 e3
  have hi : i < xs.length := by rw [hlen]; exact (Array.getElem?_eq_some_iff.1 hf1).1
  exact ⟨hcl, m, xs[i], by rw [hg i f hf1, List.getElem?_eq_getElem hi]⟩
end
end Go.Proofs.YtpbjbhcejgnhiaaDoor.V
