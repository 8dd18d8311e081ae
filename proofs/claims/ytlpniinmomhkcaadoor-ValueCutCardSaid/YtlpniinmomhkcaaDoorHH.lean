/- Rules and words that several seats share. -/
import Derived.Test.YtlpniinmomhkcaaDoorHX
import Derived.Test.YtlpniinmomhkcaaDoorStr
import Derived.Laws.CopyRow
set_option linter.unusedVariables false
set_option linter.unusedSimpArgs false
namespace Go.Proofs.YtlpniinmomhkcaaDoor.V
open Go Go.Proofs Go.RowKit
section
variable {α : Type} {P : Program} {t e : TypeId} {z : Value} {bytes : Nat} {E : Enc α}
/-- slices.Clone -/
theorem clone_i {w : World} {A : Option Addr} {n c : Nat} {xs : List α} {K : Value → WP} (hE : ElemK P t e z E.k bytes) (h : Sli E w A n xs) (hlen : n * bytes ≤ 140737488355328) (hb : 0 < bytes)
    (hK : ∀ A' c' w', Owni E e w' w.heap.size A' n c' xs → Ext w w' → K (.slice A' n c') w') :
    (splitW (Option.isNone A) (K (.slice none 0 0)) <|
      newW (.cells #[] e) fun (r1 : Nat) => runW P (Builtin.append_ #[t, t] t #[.slice (some (⟨r1, 0, none⟩ : Addr)) 0 0, .slice A n c]) .slc fun (u2 : (Option Addr × Nat × Nat)) => K (.slice u2.1 u2.2.1 u2.2.2)) w := by
  refine splitW_i (fun hA => ?_) (fun hA => ?_)
  · have hA : A = none := by simpa using hA
    subst hA
    obtain rfl : n = 0 := by
      rcases Nat.eq_zero_or_pos n with h0 | h0
      · exact h0
      · obtain ⟨a, h1, _⟩ := h.2.2 h0; cases h1
    obtain rfl : xs = [] := List.eq_nil_of_length_eq_zero h.1
    exact hK none 0 w (Owni.nil _ _ _) (Ext.refl w)
  · apply newW_i
    have he : Ext w (w.alloc (.cells #[] e)) := (Ext.refl w).alloc _
    have ho : Owni E e (w.alloc (.cells #[] e)) w.heap.size (some ⟨w.heap.size, 0, none⟩) 0 0 ([] : List α) := Owni.lit (xs := []) (n := 0) rfl (Nat.le_refl _) (by omega)
    refine append_sli hE ho (by simp) (h.ext he) (by rw [Nat.zero_add]; exact hlen) hb ?_
    intro A' c' w' ho' hg _
    rw [Nat.zero_add] at ho' ⊢
    exact hK A' c' w' (by simpa using ho') (Ext.grown he hg.1 (fun j hj => by injection hj with hj; subst hj; exact Nat.le_refl _))
/-- copy(s, x...) -/
theorem copy_sl {w : World} {b o n c m d : Nat} {ty u t2 : TypeId} {X : Option Addr} {cs ys : List Value} {K : Int → WP} (hE : Elem P t e z bytes) (hb : Blk w b cs t2) (hx : Sl w X m ys) (hys : ∀ y ∈ ys, y.oneCell' = true) (ho : o + min m n ≤ cs.length) (hX : X ≠ none)
    (hK : ∀ w', Blk w' b (cs.take o ++ ys.take (min m n) ++ cs.drop (o + min m n)) t2 → w.grownBy w' (some b) → K ((min m n : Nat) : Int) w') :
    runW P (Builtin.copy_ #[t, u] ty #[.slice (some ⟨b, o, none⟩) n c, .slice X m d]) (.int .i64) K w := by
  obtain ⟨ht, hi, hz⟩ := hE
  obtain ⟨i, hi, hii⟩ := Option.map_eq_some_iff.1 hi
  simp only [Prod.mk.injEq] at hii
  obtain ⟨hz0, hz1, hz2⟩ := hii
  have hl := hx.len
  obtain ⟨a, rfl⟩ := Option.ne_none_iff_exists'.1 hX
  have hlen : (ys.take (min m n)).length = min m n := by rw [List.length_take]; omega
  have hsrc : ∀ j v, (ys.take (min m n))[j]? = some v → w.cell? (a.add j) = some v := fun j v hj => by
    rw [List.getElem?_take] at hj
    split at hj
    · rcases Nat.eq_zero_or_pos m with h0 | h0
      · omega
      · obtain ⟨a', h1, h2⟩ := hx.2.2 h0
        cases h1
        exact h2 j v hj
    · cases hj
  have hr := run_copy_row (P := P) w t u ty e b o n c a m d cs.toArray t2 (ys.take (min m n)) ht (by rw [hi]; simp [hz1]) hb hlen hsrc (by rw [hlen]; simpa using ho) (fun v hv => hys v (List.mem_of_mem_take hv))
  rw [hlen] at hr
  refine ⟨((min m n : Nat) : Int), _, hr, hK _ ?_ ?_⟩
  · have hb' : w.heap[b]? = some (.cells cs.toArray t2 (0, 0)) := hb
    show (w.heap.modify b _)[b]? = _
    rw [Array.getElem?_modify, if_pos rfl, hb']
    simp
  · refine ⟨rfl, rfl, rfl, by simp [World.setRow], fun k hk hne => ?_⟩
    simp [World.setRow]
    rw [Array.getElem?_modify]
    split
    · exact absurd (by subst_vars; rfl) hne
    · rfl
end

theorem owni_of_blk {α : Type} {E : Enc α} {e : TypeId} {w : World} {B b n : Nat} {xs : List α} (h : Blk w b (E.flat xs) e) (hn : xs.length = n) (hm : n ≤ 9223372036854775807) (hB : B ≤ b) : Owni E e w B (some ⟨b, 0, none⟩) n n xs := by
  refine ⟨by rw [E.flat_length, hn], .inr ⟨b, n, (E.flat xs).toArray, rfl, hB, h, Nat.le_refl _, by simpa [maxLen] using hm, by simp [E.flat_length, hn], ?_⟩⟩
  rw [List.take_of_length_le (by simp [E.flat_length, hn])]
def mkB (bs : List UInt8) : ByteArray := ⟨bs.toArray⟩
theorem B_mkB (bs : List UInt8) : B (mkB bs) = bs := B_mk bs
theorem mkB_B (s : ByteArray) : mkB (B s) = s := B_inj (B_mkB _)
theorem mkB_size (bs : List UInt8) : (mkB bs).size = bs.length := by rw [B_size, B_mkB]
theorem heldAgg {w : World} {b : Nat} {x y : Value} {t : TypeId} (h : Blk w b [x, y] t) : ∀ p ∈ [((⟨b, 0, none⟩ : Addr).add 0, x), ((⟨b, 0, none⟩ : Addr).add 1, y)], w.cell? p.1 = some p.2 := by
  intro p hp
  simp only [List.mem_cons, List.not_mem_nil, or_false] at hp
  rcases hp with rfl | rfl <;> simp [add_mk, h.cell]
theorem held1F {w : World} {b o : Nat} {cs : List Value} {v : Value} {t : TypeId} (h : Blk w b cs t) (hv : cs[o]? = some v) : ∀ p ∈ [((⟨b, 0, none⟩ : Addr).add o, v)], w.cell? p.1 = some p.2 := by
  intro p hp
  obtain rfl := List.mem_singleton.1 hp
  show w.cell? ((⟨b, 0, none⟩ : Addr).add o) = _
  rw [add_mk, h.cell, Nat.zero_add, hv]
theorem held1Z {w : World} {b : Nat} {cs : List Value} {v : Value} {t : TypeId} (h : Blk w b cs t) (hv : cs[0]? = some v) : ∀ p ∈ [((⟨b, 0, none⟩ : Addr), v)], w.cell? p.1 = some p.2 := by
  intro p hp
  obtain rfl := List.mem_singleton.1 hp
  show w.cell? (⟨b, 0, none⟩ : Addr) = _
  rw [h.cell, hv]
abbrev HL (w : World) (l : List (Addr × Value)) : Prop := ∀ p ∈ l, w.cell? p.1 = some p.2
theorem h1_i {w : World} {a : List (Addr × Value)} {K : WP} (ha : HL w a) (hK : K w) : heldW [a] K w :=
  ⟨fun l hl => by rw [List.mem_singleton.1 hl]; exact ha, hK⟩
theorem h2_i {w : World} {a b : List (Addr × Value)} {K : WP} (ha : HL w a) (hb : HL w b) (hK : K w) : heldW [a, b] K w :=
  ⟨fun l hl => by
    simp only [List.mem_cons, List.not_mem_nil, or_false] at hl
    rcases hl with rfl | rfl
    · exact ha
    · exact hb, hK⟩
theorem h3_i {w : World} {a b c : List (Addr × Value)} {K : WP} (ha : HL w a) (hb : HL w b) (hc : HL w c) (hK : K w) : heldW [a, b, c] K w :=
  ⟨fun l hl => by
    simp only [List.mem_cons, List.not_mem_nil, or_false] at hl
    rcases hl with rfl | rfl | rfl
    · exact ha
    · exact hb
    · exact hc, hK⟩
theorem cellsAt_ext {w w' : World} (he : Ext w w') {a : Addr} : ∀ {vs : List Value} {i : Nat}, CellsAt w a i vs → CellsAt w' a i vs
  | [], _, _ => trivial
  | v :: r, i, h => ⟨he.cell h.1, cellsAt_ext he h.2⟩
theorem hl_cells {w : World} {a : Addr} : ∀ {vs : List Value} {i : Nat}, CellsAt w a i vs → ∀ p ∈ cellList a i vs, w.cell? p.1 = some p.2
  | [], _, _, p, hp => by cases hp
  | v :: r, i, h, p, hp => by
    rcases List.mem_cons.1 hp with rfl | hp
    · exact h.1
    · exact hl_cells h.2 p hp
theorem take_snoc {α : Type} {l : List α} {i : Nat} {p : α} (h : l[i]? = some p) : l.take (i + 1) = l.take i ++ [p] := by
  rw [List.take_add_one, h]
  rfl
theorem heldc {w : World} {a : List (Addr × Value)} {H : List (List (Addr × Value))} {K : WP} (ha : HL w a) (h : heldW H K w) : heldW (a :: H) K w :=
  ⟨fun l hl => by
    rcases List.mem_cons.1 hl with rfl | hl
    · exact ha
    · exact h.1 l hl, h.2⟩
theorem held0 {w : World} {K : WP} (h : K w) : heldW [] K w := ⟨(fun l hl => by cases hl), h⟩
theorem hlB {w : World} {b : Nat} {cs : List Value} {t : TypeId} (h : Blk w b cs t) : ∀ p ∈ cellList (⟨b, 0, none⟩ : Addr) 0 cs, w.cell? p.1 = some p.2 := hl_cells h.cellsAt
/-- Every call's world, where the contract says that it grew. -/
theorem le_k {a b : Nat} (h : Nat.ble a b = true) : a ≤ b := Nat.le_of_ble_eq_true h
end Go.Proofs.YtlpniinmomhkcaaDoor.V
