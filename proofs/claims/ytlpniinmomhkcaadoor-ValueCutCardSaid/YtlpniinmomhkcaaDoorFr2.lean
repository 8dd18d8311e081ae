/- What comes in, opened: rows of structs. It speaks of no program. -/
import Derived.Test.YtlpniinmomhkcaaDoorFr
import Derived.Test.YtlpniinmomhkcaaDoorStr
import Derived.Deep.Slices
import Derived.Deep.Fields
set_option linter.unusedVariables false
set_option linter.unusedSimpArgs false
namespace Go.Proofs.YtlpniinmomhkcaaDoor.V
open Go Go.ChangeShapes Go.WideShapes Go.ChangeAt Go.RowKit Go.Deep
def fieldsOf (P : Program) (t : TypeId) : Array Field := match P.underlying t with
  | some (.struct fs) => fs
  | _ => #[]
theorem exists_list {α : Type} {Q : Nat → α → Prop} : ∀ (n : Nat), (∀ i, i < n → ∃ x, Q i x) → ∃ xs : List α, xs.length = n ∧ ∀ i x, xs[i]? = some x → Q i x
  | 0, _ => ⟨[], rfl, fun i x h => by simp at h⟩
  | n + 1, h => by
    obtain ⟨xs, hl, hq⟩ := exists_list n (fun i hi => h i (by omega))
    obtain ⟨x, hx⟩ := h n (by omega)
    refine ⟨xs ++ [x], by simp [hl], fun i y hy => ?_⟩
    rcases Nat.lt_or_ge i n with hi | hi
    · rw [List.getElem?_append_left (by omega)] at hy
      exact hq i y hy
    · rw [List.getElem?_append_right (by omega), hl] at hy
      have hin : i - n = 0 := by
        rcases Nat.eq_zero_or_pos (i - n) with h0 | h0
        · exact h0
        · rw [List.getElem?_eq_none (by simp; omega)] at hy; cases hy
      rw [hin] at hy
      have : i = n := by omega
      subst this
      have hxy : x = y := by simpa using hy
      subst hxy
      exact hx
section
variable {H : Type} {enc : TypeId × Value → H} {P : Program} {w : World} {base : Nat} {spare : Nat → Bool} {held : Bool} {α : Type}
/-- A slice of rows that came in. -/
theorem open_rows {E : Enc α} {Q : α → Prop} {t e : TypeId} {v : Value} {d : DataW H} {ps : List MemPlace} {r : Reach} {b0 : Nat} (ht : P.underlying t = some (.slice e)) (hC : P.cellsOf e = E.k)
    (hdec : ∀ (n : Nat) (cs' : List Value) (x' : DataW H × List MemPlace), DataW.trod enc P w base (fun _ => true) held n e cs' = some x' → ∃ x : α, E.f x = cs' ∧ Q x)
    (hv : Value.okWide P w r b0 t v) (h : DataW.Trod enc P w base (fun _ => true) held t v d ps) : ∃ A n c xs, v = .slice A n c ∧ Sli E w A n xs ∧ n ≤ c ∧ ∀ x ∈ xs, Q x := by
  obtain ⟨A, n, c, rfl⟩ := okWide_slice ht hv
  obtain ⟨fuel, hf⟩ := h
  rcases open_slice ht hf with ⟨hcs, _⟩ | ⟨a, len, cap, m, k, D, Pl, hcs, hb, hl, hm, hmm, hx, hi⟩
  · simp [Value.cells] at hcs
    obtain ⟨rfl, rfl, rfl⟩ := hcs
    exact ⟨_, _, _, [], rfl, Sli.nil _ _, by omega, fun x hx => by cases hx⟩
  · simp [Value.cells] at hcs
    obtain ⟨rfl, rfl, rfl⟩ := hcs
    have hmc : m = c := by simpa using hmm
    have hall : ∀ i, i < n → ∃ x : α, (∀ (j : Nat) (u : Value), (E.f x)[j]? = some u → w.cell? ((a.add (i * E.k)).add j) = some u) ∧ Q x := by
      intro i hin
      obtain ⟨cs', hc, ht'⟩ := hi i (by omega)
      obtain ⟨x, hxe, hq⟩ := hdec k cs' _ ht'
      obtain ⟨_, hcl, hat⟩ := World.cells?_some hc
      rw [hC] at hcl hat
      refine ⟨x, fun j u hj => ?_, hq⟩
      have hjk : j < E.k := by have := (List.getElem?_eq_some_iff.1 hj).1; rw [E.len] at this; exact this
      rw [hat j hjk, ← hxe]
      exact hj
    obtain ⟨xs, hxl, hxs⟩ := exists_list n hall
    refine ⟨_, _, _, xs, rfl, ⟨hxl, by simp only [maxLen] at hm; omega, fun hn => ⟨a, rfl, ?_, ?_⟩⟩, hl, fun x hx => ?_⟩
    · have h0 := hxs 0 xs[0] (List.getElem?_eq_getElem (by omega))
      have h1 := h0.1 0 ((E.f xs[0])[0]'(by rw [E.len]; exact E.pos)) (List.getElem?_eq_getElem _)
      rw [show a.add (0 * E.k) = a by rw [Nat.zero_mul]; simp [Addr.add], show a.add 0 = a by simp [Addr.add]] at h1
      exact spot_of_cell h1
    · intro j u hj
      have hjl : j < (E.flat xs).length := (List.getElem?_eq_some_iff.1 hj).1
      rw [E.flat_length] at hjl
      have hdm := Nat.div_add_mod j E.k
      have hmod := Nat.mod_lt j E.pos
      have hdiv : j / E.k < xs.length := Nat.div_lt_of_lt_mul (by rw [Nat.mul_comm]; exact hjl)
      rw [← hdm, Nat.mul_comm, E.flat_get _ _ _ hmod, List.getElem?_eq_getElem hdiv] at hj
      have := (hxs _ _ (List.getElem?_eq_getElem hdiv)).1 (j % E.k) u hj
      rw [Go.Deep.add_add] at this
      rw [← hdm, Nat.mul_comm]
      exact this
    · obtain ⟨i, hi', rfl⟩ := List.mem_iff_getElem.1 hx
      exact (hxs i _ (List.getElem?_eq_getElem hi')).2
theorem dec_string {t : TypeId} {n : Nat} {cs : List Value} {x : DataW H × List MemPlace} (ht : P.underlying t = some .string) (h : DataW.trod enc P w base spare held n t cs = some x) : ∃ s : ByteArray, cs = [.string s] ∧ s.size ≤ maxLen := by
  obtain ⟨s, h1, h2, h3⟩ := DataW.trod_string ht h
  exact ⟨s, h1, h3⟩
theorem dec_bool {t : TypeId} {n : Nat} {cs : List Value} {x : DataW H × List MemPlace} (ht : P.underlying t = some .bool) (h : DataW.trod enc P w base spare held n t cs = some x) : ∃ b : Bool, cs = [.bool b] := by
  obtain ⟨b, h1, h2⟩ := DataW.trod_bool ht h
  exact ⟨b, h1⟩
theorem dec_int {t : TypeId} {k : IntKind} {n : Nat} {cs : List Value} {x : DataW H × List MemPlace} (ht : P.underlying t = some (.int k)) (h : DataW.trod enc P w base spare held n t cs = some x) : ∃ z : Int, cs = [.int k z] ∧ (Lit.int k z).wf = true := by
  obtain ⟨z, h1, h2, h3⟩ := DataW.trod_int ht h
  exact ⟨z, h1, h3⟩
/-- The fields of a struct of one-cell fields. -/
theorem dec_fields {t : TypeId} {ts : List TypeId} {n : Nat} {cs : List Value} {x : DataW H × List MemPlace} (ht : P.underlying t = some (.struct (fieldsOf P t))) (hts : (fieldsOf P t).toList.map (·.type) = ts) (hone : oneCellFields P (fieldsOf P t) = true) (hC : P.cellsOf t = ts.length)
    (h : DataW.trod enc P w base spare held n t cs = some x) : cs.length = ts.length ∧ ∃ m : Nat, ∀ (j : Nat) (u : TypeId), ts[j]? = some u → ∃ (v : Value) (y : DataW H × List MemPlace), cs[j]? = some v ∧ DataW.trod enc P w base spare held m u [v] = some y := by
  obtain ⟨xs, m, _, hx, hcl, hlen, hg⟩ := DataW.trod_struct ht h
  rw [hC] at hcl
  refine ⟨hcl, m, fun j u hj => ?_⟩
  have hjl : j < ts.length := (List.getElem?_eq_some_iff.1 hj).1
  rw [← hts, List.getElem?_map, Array.getElem?_toList] at hj
  obtain ⟨f, hf, rfl⟩ := Option.map_eq_some_iff.1 hj
  obtain ⟨o, k⟩ := hone_of hone j f hf
  have h1 := hg j f hf
  rw [o, k] at h1
  have hjx : j < xs.length := by rw [hlen]; exact (Array.getElem?_eq_some_iff.1 hf).1
  have hcs : (cs.drop j).take 1 = [cs[j]'(by omega)] := by
    rw [List.drop_eq_getElem_cons (by omega)]
    rfl
  rw [hcs, List.getElem?_eq_getElem hjx] at h1
  exact ⟨_, _, List.getElem?_eq_getElem (by omega), h1⟩
end
end Go.Proofs.YtlpniinmomhkcaaDoor.V
