/- Rules that a walk uses often. -/
import Derived.Test.YtlpniinmomhkcaaDoorHS
set_option linter.unusedVariables false
set_option linter.unusedSimpArgs false
namespace Go.Proofs.YtlpniinmomhkcaaDoor.V
open Go Go.RowKit
variable {α : Type}

/-- A new block. -/
theorem new_i {w : World} {cs : Array Value} {t : TypeId} {K : Nat → WP} (h : ∀ r w', Blk w' r cs.toList t → Ext w w' → w.heap.size = r → w'.heap.size = r + 1 → K r w') : newW (.cells cs t) K w :=
  h w.heap.size _ (Blk.new w cs t) ((Ext.refl w).alloc _) rfl (by simp)
theorem draw_i {w : World} {K : WP} (h : ∀ w', Ext w w' → w'.heap.size = w.heap.size → (∀ k : Nat, w'.heap[k]? = w.heap[k]?) → K w') : drewW K w := h w.drew (Ext.refl w).drew rfl (fun _ => rfl)
/-- An element of a slice, whole. -/
theorem idx_A {E : Enc α} {ls : List Lf} {w : World} {A : Option Addr} {n k : Nat} {xs : List α} {i : Int} {K : LT ls → WP} (y : α → LT ls) (d : α) (h : Sli E w A n xs) (hy : ∀ x, LT.vals ls (y x) = E.f x) (hk : E.k = k) (h0 : 0 ≤ i) (h1 : i < (n : Int)) (hK : K (y (xs.getD i.toNat d)) w) :
    (guardW (0 ≤ i ∧ i < ((n : Nat) : Int)) <| ptrW A fun p => ldAW ls (p.add (Int.toNat i * k)) K) w := by
  have hi : i.toNat < xs.length := by have := h.1; omega
  refine idx_el h h0 (x := xs.getD i.toNat d) (by simp [hi]) hk ?_
  intro p hp hcell
  exact ldA_i (by rw [hy]; exact hcell) hK
theorem cellsAt_get {w : World} {a : Addr} (ha : a.spot = none) : ∀ {vs : List Value} {i o : Nat} {v : Value}, CellsAt w a i vs → vs[o]? = some v → w.cell? (a.add (i + o)) = some v
  | [], _, o, _, _, h => by simp at h
  | u :: r, i, 0, v, hc, h => by
    simp only [List.getElem?_cons_zero, Option.some.injEq] at h
    subst h
    exact hc.1
  | u :: r, i, o + 1, v, hc, h => by
    have := cellsAt_get ha (i := i + 1) hc.2 (by simpa using h)
    rw [show i + (o + 1) = i + 1 + o by omega]
    exact this
/-- A field of an element of a slice. -/
theorem idx_f {E : Enc α} {l : Lf} {w : World} {A : Option Addr} {n k : Nat} {xs : List α} {i : Int} {K : l.T → WP} (o : Nat) (y : α → l.T) (d : α) (h : Sli E w A n xs) (hy : ∀ x, (E.f x)[o]? = some (l.val (y x))) (hk : E.k = k) (h0 : 0 ≤ i) (h1 : i < (n : Int)) (hK : K (y (xs.getD i.toNat d)) w) :
    (guardW (0 ≤ i ∧ i < ((n : Nat) : Int)) <| ptrW A fun p => ldW l ((p.add (Int.toNat i * k)).add o) K) w := by
  have hi : i.toNat < xs.length := by have := h.1; omega
  refine idx_el h h0 (x := xs.getD i.toNat d) (by simp [hi]) hk ?_
  intro p hp hcell
  have hsp : (p.add (Int.toNat i * k)).spot = none := by
    obtain ⟨b, o, s⟩ := p
    simp only at hp
    subst hp
    rw [add_mk]
  have := cellsAt_get hsp hcell (hy _)
  rw [Nat.zero_add] at this
  exact ld_i this hK
theorem idx_f0 {E : Enc α} {l : Lf} {w : World} {A : Option Addr} {n k : Nat} {xs : List α} {i : Int} {K : l.T → WP} (y : α → l.T) (d : α) (h : Sli E w A n xs) (hy : ∀ x, (E.f x)[0]? = some (l.val (y x))) (hk : E.k = k) (h0 : 0 ≤ i) (h1 : i < (n : Int)) (hK : K (y (xs.getD i.toNat d)) w) :
    (guardW (0 ≤ i ∧ i < ((n : Nat) : Int)) <| ptrW A fun p => ldW l (p.add (Int.toNat i * k)) K) w := by
  have := idx_f (K := K) 0 y d h hy hk h0 h1 hK
  obtain ⟨g, a, e, x, hx, hk2⟩ := this
  refine ⟨g, a, e, x, ?_, hk2⟩
  rw [add_zero] at hx
  exact hx
/-- Whole numbers with a sign, as a slice's elements. -/
def intE : Enc Int where
  k := 1
  f n := [.int .i64 n]
  len _ := rfl
  one _ := by
    intro v hv
    simp only [List.mem_singleton] at hv
    subst hv
    rfl
  pos := by omega
theorem idx_int {w : World} {A : Option Addr} {n : Nat} {xs : List Int} {i : Int} {K : Int → WP} (h : Sli intE w A n xs) (h0 : 0 ≤ i) (h1 : i < (n : Int)) (hK : K (xs.getD i.toNat 0) w) :
    (guardW (0 ≤ i ∧ i < ((n : Nat) : Int)) <| ptrW A fun p => ldW (.int .i64) (p.add (Int.toNat i * 1)) K) w :=
  idx_f0 (l := .int .i64) (fun x => x) 0 h (fun _ => rfl) rfl h0 h1 hK
/-- A box, read whole, or a field of it. -/
theorem boxA {ls : List Lf} {w : World} {b : Nat} {cs : List Value} {t : TypeId} {K : LT ls → WP} (x : LT ls) (h : Blk w b cs t) (hx : LT.vals ls x = cs) (hK : K x w) : ldAW ls ⟨b, 0, none⟩ K w := ⟨x, by rw [hx]; exact h.cellsAt, hK⟩
theorem boxF {l : Lf} {w : World} {b : Nat} {cs : List Value} {t : TypeId} {K : l.T → WP} (o : Nat) (x : l.T) (h : Blk w b cs t) (hx : cs[o]? = some (l.val x)) (hK : K x w) : ldW l ((⟨b, 0, none⟩ : Addr).add o) K w := ld_blk h hx hK
theorem box0 {l : Lf} {w : World} {b : Nat} {cs : List Value} {t : TypeId} {K : l.T → WP} (x : l.T) (h : Blk w b cs t) (hx : cs[0]? = some (l.val x)) (hK : K x w) : ldW l ⟨b, 0, none⟩ K w := ldW_blk h hx hK
/-- A box that is filled anew. -/
theorem refill {w : World} {b n : Nat} {cs vs : List Value} {t : TypeId} {us : Array Value} {K : WP} (h : Blk w b cs t) (hl : vs.length = cs.length) (hv : ∀ v ∈ vs, v.oneCell' = true) (hu : us.size = n)
    (hK : ∀ w', Blk w' b vs t → (∀ w0, Ext w0 w → w0.heap.size ≤ b → Ext w0 w') → (∀ k : Nat, k ≠ b → w'.heap[k]? = w.heap[k]?) → w'.heap.size = w.heap.size → K w') :
    (guardW (us.size = n) <| stAW (⟨b, 0, none⟩ : Addr) vs K) w := by
  refine ⟨hu, h.storable_from vs 0 (by omega) hv, hK _ (h.setCells vs hl) (fun w0 he hb => he.setCells hb vs 0) ?_ ?_⟩
  · intro k hk
    have : ∀ (vs : List Value) (i : Nat) (w : World), (setCells w ⟨b, 0, none⟩ i vs).heap[k]? = w.heap[k]? := by
      intro vs
      induction vs with
      | nil => intro i w; rfl
      | cons v r ih =>
        intro i w
        simp only [setCells]
        rw [ih, Below.heap_setCell _ _ _ _ (by rw [add_mk]; simp only; omega)]
    exact this vs 0 w
  · have : ∀ (vs : List Value) (i : Nat) (w : World), (setCells w ⟨b, 0, none⟩ i vs).heap.size = w.heap.size := by
      intro vs
      induction vs with
      | nil => intro i w; rfl
      | cons v r ih => intro i w; simp only [setCells]; rw [ih]; simp
    exact this vs 0 w
end Go.Proofs.YtlpniinmomhkcaaDoor.V
