/- Slices of elements of several cells each. -/
import Derived.Test.YtlpniinmomhkcaaDoorH3
set_option linter.unusedVariables false
set_option linter.unusedSimpArgs false
namespace Go.Proofs.YtlpniinmomhkcaaDoor.V
open Go Go.RowKit

/-- How a value of a type lies in cells. -/
structure Enc (α : Type) where
  k : Nat
  f : α → List Value
  len : ∀ x, (f x).length = k
  one : ∀ x, ∀ v ∈ f x, v.oneCell' = true
  pos : 0 < k
variable {α : Type}
def Enc.flat (E : Enc α) (xs : List α) : List Value := xs.flatMap E.f
theorem Enc.flat_length (E : Enc α) (xs : List α) : (E.flat xs).length = xs.length * E.k := by
  induction xs with
  | nil => simp [Enc.flat]
  | cons x r ih =>
    have : E.flat (x :: r) = E.f x ++ E.flat r := rfl
    rw [this, List.length_append, E.len, ih, List.length_cons, Nat.add_mul, Nat.one_mul, Nat.add_comm]
theorem Enc.flat_append (E : Enc α) (xs ys : List α) : E.flat (xs ++ ys) = E.flat xs ++ E.flat ys := by simp [Enc.flat]
theorem Enc.flat_one (E : Enc α) (xs : List α) : ∀ v ∈ E.flat xs, v.oneCell' = true := by
  intro v hv
  obtain ⟨x, _, hx⟩ := List.mem_flatMap.1 hv
  exact E.one x v hx
theorem Enc.flat_get (E : Enc α) : ∀ (xs : List α) (i j : Nat), j < E.k → (E.flat xs)[i * E.k + j]? = (xs[i]?).bind fun x => (E.f x)[j]?
  | [], i, j, h => by simp [Enc.flat]
  | x :: r, i, j, h => by
    have e : E.flat (x :: r) = E.f x ++ E.flat r := rfl
    rw [e]
    cases i with
    | zero =>
      rw [Nat.zero_mul, Nat.zero_add, List.getElem?_append_left (by rw [E.len]; exact h)]
      rfl
    | succ i =>
      rw [List.getElem?_append_right (by rw [E.len, Nat.add_mul]; omega), E.len, show (i + 1) * E.k + j - E.k = i * E.k + j by rw [Nat.add_mul]; omega, Enc.flat_get E r i j h]
      rfl
theorem Enc.flat_drop (E : Enc α) : ∀ (n : Nat) (xs : List α), (E.flat xs).drop (n * E.k) = E.flat (xs.drop n)
  | 0, xs => by simp
  | n + 1, [] => by simp [Enc.flat]
  | n + 1, x :: r => by
    have e : E.flat (x :: r) = E.f x ++ E.flat r := rfl
    rw [e, List.drop_append, List.drop_of_length_le (by rw [E.len, Nat.add_mul]; omega), E.len, show (n + 1) * E.k - E.k = n * E.k by rw [Nat.add_mul]; omega, Enc.flat_drop E n r]
    rfl
theorem Enc.flat_take (E : Enc α) : ∀ (n : Nat) (xs : List α), (E.flat xs).take (n * E.k) = E.flat (xs.take n)
  | 0, xs => by simp [Enc.flat]
  | n + 1, [] => by simp [Enc.flat]
  | n + 1, x :: r => by
    have e : E.flat (x :: r) = E.f x ++ E.flat r := rfl
    rw [e, List.take_append, List.take_of_length_le (by rw [E.len, Nat.add_mul]; omega), E.len, show (n + 1) * E.k - E.k = n * E.k by rw [Nat.add_mul]; omega, Enc.flat_take E n r]
    rfl
/-- A slice that is read, of elements of E.k cells each. -/
def Sli (E : Enc α) (w : World) (A : Option Addr) (n : Nat) (xs : List α) : Prop := xs.length = n ∧ n ≤ 9223372036854775807 ∧ (0 < n → ∃ a, A = some a ∧ a.spot = none ∧ Cells w a (E.flat xs))
section
variable {E : Enc α} {w w' : World} {A : Option Addr} {n c : Nat} {xs : List α}
theorem Sli.len (h : Sli E w A n xs) : xs.length = n := h.1
theorem Sli.le (h : Sli E w A n xs) : n ≤ 9223372036854775807 := h.2.1
theorem Sli.ext (h : Sli E w A n xs) (he : Ext w w') : Sli E w' A n xs := ⟨h.1, h.2.1, fun hn => by
  obtain ⟨a, e, hs, hc⟩ := h.2.2 hn
  exact ⟨a, e, hs, fun j v hj => he.cell (hc j v hj)⟩⟩
theorem Sli.nil (w : World) (A : Option Addr) : Sli E w A 0 [] := ⟨rfl, by omega, fun h => absurd h (by omega)⟩
theorem Sli.drew (h : Sli E w A n xs) : Sli E w.drew A n xs := h
theorem Sli.of_blk {b : Nat} {t : TypeId} (h : Blk w b (E.flat xs) t) (hn : xs.length = n) (hm : n ≤ 9223372036854775807) : Sli E w (some ⟨b, 0, none⟩) n xs := ⟨hn, hm, fun _ => ⟨_, rfl, rfl, fun j v hj => by rw [add_mk, h.cell]; simpa using hj⟩⟩
theorem cellsAt_of {a : Addr} (hs : a.spot = none) {vs : List Value} {o : Nat} (h : ∀ (j : Nat) (v : Value), vs[j]? = some v → w.cell? (a.add (o + j)) = some v) : ∀ (us : List Value) (i : Nat), vs.drop i = us → CellsAt w (a.add o) i us
  | [], _, _ => trivial
  | v :: r, i, hd => by
    refine ⟨?_, cellsAt_of hs h r (i + 1) ?_⟩
    · rw [add_add a o i hs]
      apply h
      have := congrArg (fun l => l[0]?) hd
      simpa using this
    · have := congrArg (List.drop 1) hd
      simpa [List.drop_drop, Nat.add_comm] using this
/-- An element's cells. -/
theorem Sli.at_ (h : Sli E w A n xs) {i : Nat} {x : α} (hx : xs[i]? = some x) : ∃ a, A = some a ∧ a.spot = none ∧ CellsAt w (a.add (i * E.k)) 0 (E.f x) := by
  have hi : i < xs.length := (List.getElem?_eq_some_iff.1 hx).1
  obtain ⟨a, e, hs, hc⟩ := h.2.2 (by rw [← h.1]; omega)
  refine ⟨a, e, hs, cellsAt_of hs (vs := E.f x) (fun j v hj => ?_) _ 0 rfl⟩
  apply hc
  have hjk : j < E.k := by have := (List.getElem?_eq_some_iff.1 hj).1; rw [E.len] at this; exact this
  rw [E.flat_get _ _ _ hjk, hx]
  exact hj
theorem idx_el {i : Int} {x : α} {K : Addr → WP} {k : Nat} (h : Sli E w A n xs) (h0 : 0 ≤ i) (hx : xs[i.toNat]? = some x) (hk : E.k = k) (hK : ∀ a, a.spot = none → CellsAt w (a.add (Int.toNat i * k)) 0 (E.f x) → K a w) :
    (guardW (0 ≤ i ∧ i < ((n : Nat) : Int)) <| ptrW A K) w := by
  have hi : i.toNat < xs.length := (List.getElem?_eq_some_iff.1 hx).1
  obtain ⟨a, e, hs, hc⟩ := h.at_ hx
  rw [hk] at hc
  exact ⟨⟨h0, by have := h.1; omega⟩, a, e, hK a hs hc⟩
/-- s[l:h] -/
theorem Sli.cut (h : Sli E w A n xs) {l k m z : Nat} (hz : E.k = z) (hlk : l + k ≤ n) (hm : m = l → k = 0) : Sli E w (cutAddr A l m z) k ((xs.drop l).take k) := by
  subst hz
  refine ⟨by have := h.1; simp; omega, by have := h.2.1; omega, fun hk => ?_⟩
  obtain ⟨a, rfl, hs, hc⟩ := h.2.2 (by omega)
  refine ⟨a.add (l * E.k), ?_, ?_, fun j v hj => ?_⟩
  · unfold cutAddr
    rw [if_neg (fun e => by have := hm e; omega)]
    rfl
  · obtain ⟨b, o, s⟩ := a
    simp only at hs
    subst hs
    rw [add_mk]
  · rw [add_add a _ j hs]
    apply hc
    rw [← Enc.flat_take, ← Enc.flat_drop, List.getElem?_take] at hj
    split at hj
    · simpa using hj
    · cases hj
theorem Sli.cut0 (h : Sli E w A n xs) {k m z : Nat} (hz : E.k = z) (hk : k ≤ n) (hm : m = 0 → k = 0) : Sli E w (cutAddr A 0 m z) k (xs.take k) := by simpa using h.cut (l := 0) (k := k) (m := m) hz (by omega) hm
end
/-- A slice of one's own, of elements of E.k cells each. -/
def Owni (E : Enc α) (e : TypeId) (w : World) (B : Nat) (A : Option Addr) (n c : Nat) (xs : List α) : Prop := w.ownsRow B e E.k (.slice A n c) n (E.flat xs)
section
variable {E : Enc α} {e : TypeId} {w w' : World} {B B' : Nat} {A : Option Addr} {n c : Nat} {xs : List α}
theorem Owni.len (h : Owni E e w B A n c xs) : xs.length = n := by
  have := h.1
  rw [E.flat_length] at this
  exact Nat.eq_of_mul_eq_mul_right E.pos this
theorem Owni.le (h : Owni E e w B A n c xs) : n ≤ c ∧ c ≤ 9223372036854775807 := by
  rcases h.2 with ⟨h1, h2⟩ | ⟨g, cap, cur, hv, hb, hh, h1, h2, h3, h4⟩
  · injection h1 with h1 h3 h4; subst h3 h4; omega
  · injection hv with hv1 hv2 hv3; subst hv3; simp only [maxLen] at h2; omega
theorem Owni.sl (h : Owni E e w B A n c xs) : Sli E w A n xs := by
  refine ⟨h.len, by have := h.le; omega, fun hn => ?_⟩
  rcases h.2 with ⟨h1, h2⟩ | ⟨g, cap, cur, hv, hb, hh, h1, h2, h3, h4⟩
  · omega
  · injection hv with hv1 hv2 hv3
    subst hv1 hv3
    exact ⟨_, rfl, rfl, fun j v hj => World.ownsRow.cells h (g := g) rfl j v hj⟩
theorem Owni.ext (h : Owni E e w B A n c xs) (he : Ext w w') : Owni E e w' B A n c xs := World.ownsRow.kept h (grownBy_of_ext he none) (by cases Value.ownBlock (.slice A n c) <;> simp)
theorem Owni.lower (h : Owni E e w B A n c xs) (hB : B' ≤ B) : Owni E e w B' A n c xs := by
  refine ⟨h.1, ?_⟩
  rcases h.2 with h1 | ⟨g, cap, cur, hv, hb, r⟩
  · exact .inl h1
  · exact .inr ⟨g, cap, cur, hv, by omega, r⟩
theorem Owni.row (h : Owni E e w B A n c xs) : ∀ j, orow A = some j → B ≤ j := fun j hj => (World.ownsRow.lt h j (by rw [orow_eq]; exact hj)).1
theorem Owni.row_lt (h : Owni E e w B A n c xs) : ∀ j, orow A = some j → j < w.heap.size := fun j hj => (World.ownsRow.lt h j (by rw [orow_eq]; exact hj)).2
theorem Owni.nil (e : TypeId) (w : World) (B : Nat) : Owni E e w B none 0 0 [] := World.ownsRow_nil w B e E.k
theorem Owni.grown {row : Option Nat} (h : Owni E e w B A n c xs) (hg : w.grownBy w' row) (hr : ∀ j, row = some j → orow A ≠ some j) : Owni E e w' B A n c xs :=
  World.ownsRow.kept h hg (match A, h with
    | none, _ => .inl rfl
    | some a, h => .inr fun he => hr a.block he.symm rfl)
theorem Owni.lit {xs : List α} {n : Nat} (hn : xs.length = n) (hB : B ≤ w.heap.size) (hm : n ≤ 9223372036854775807) : Owni E e (w.alloc (.cells (E.flat xs).toArray e)) B (some ⟨w.heap.size, 0, none⟩) n n xs := by
  have := World.ownsRow_lit (base := B) (e := e) (size := E.k) w (E.flat xs).toArray n hB (by simpa [maxLen] using hm) (by simp [E.flat_length, hn])
  exact this
end
/-- What is told of an element type of k cells. -/
def ElemK (P : Program) (t e : TypeId) (z : Value) (k bytes : Nat) : Prop := P.underlying t = some (.slice e) ∧ ((P.info? e).map fun i => (i.zero, i.size, i.bytes)) = some (some z, k, bytes) ∧ z.cells.size = k
section
variable {P : Program} {t e : TypeId} {z : Value} {bytes : Nat} {E : Enc α}
theorem run_append_noneK {w : World} {B k : Nat} {ty : TypeId} {i : TypeInfo} {v : Value} {n d : Nat} {xs : List Value} (ht : P.underlying t = some (.slice e)) (hi : P.info? e = some i) (hown : w.ownsRow B e k v n xs) :
    (Builtin.append_ #[t, t] ty #[v, .slice none 0 d]).run P w = .ok v w := by
  rcases hown.2 with ⟨rfl, rfl⟩ | ⟨g, cap, cur, rfl, _, _, hnc, _⟩
  · simp [Builtin.append_, run_underlying ht, sizeOf, typeInfo, hi, Builtin.lenOf, Builtin.firstCells]
  · simp [Builtin.append_, run_underlying ht, sizeOf, typeInfo, hi, Builtin.lenOf, Builtin.firstCells, hnc, storeCells]
theorem append_rowK {w w' : World} {B k : Nat} {ty : TypeId} {A : Option Addr} {a : Addr} {n c m d : Nat} {vs ys : List Value} {v' : Value} (hE : ElemK P t e z k bytes) (hk : 0 < k) (ho : w.ownsRow B e k (.slice A n c) n vs)
    (hl : ys.length = m * k) (hy : ∀ j u, ys[j]? = some u → w.cell? (a.add j) = some u) (hys : ∀ y ∈ ys, y.oneCell' = true) (hlen : (n + m) * bytes ≤ 140737488355328) (hnm : n + m ≤ 140737488355328)
    (hr : (Builtin.append_ #[t, t] ty #[.slice A n c, .slice (some a) m d]).run P w = .ok v' w') : ∀ j, v'.ownBlock = some j → Value.ownBlock (.slice A n c) = some j ∨ w.heap.size ≤ j := by
  obtain ⟨ht, hi, hz⟩ := hE
  obtain ⟨i, hi, hii⟩ := Option.map_eq_some_iff.1 hi
  simp only [Prod.mk.injEq] at hii
  obtain ⟨hz0, hz1, hz2⟩ := hii
  have hfit : ∀ old, old < n + m → Builtin.nextslicecap (n + m) old * i.bytes ≤ 281474976710656 := fun old ho => growslice_fits (by omega) (by rw [hz2]; exact hlen)
  rcases ho.2 with ⟨h1, h2⟩ | ⟨g, cap, cur, hv, hbg, hg, hnc, hcm, hcs, htake⟩
  · rw [h1] at hr ⊢
    subst h2
    by_cases hm0 : m = 0
    · subst hm0
      have hn : ys = [] := List.eq_nil_of_length_eq_zero (by simpa using hl)
      subst hn
      have hr2 : (Builtin.append_ #[t, t] ty #[.slice none 0 0, .slice (some a) 0 d]).run P w = .ok (.slice none 0 0) w := by
        simp [Builtin.append_, run_underlying ht, sizeOf, typeInfo, hi, Builtin.lenOf, Builtin.firstCells, loadCells, loadCellsFrom]
      rw [hr] at hr2
      injection hr2 with e1 e2
      subst e1
      intro j hj
      exact .inl hj
    · have hr2 := run_append_nil (P := P) w t ty e i z ht hi hz0 a m d ys (by rw [hz1, hl]) hy (by omega) (by omega) (by rw [hz2]; simp only [Nat.zero_add] at hlen; omega)
      rw [hr] at hr2
      injection hr2 with e1 e2
      subst e1
      intro j hj
      injection hj with hj
      exact .inr (Nat.le_of_eq hj)
  · rw [hv] at hr ho ⊢
    by_cases hroom : n + m ≤ cap
    · obtain ⟨w2, hr2, _⟩ := run_append_fits (P := P) w B t ty e i k ht hi hz1 g n cap vs ho a m d ys hl hy hys hroom
      rw [hr] at hr2
      injection hr2 with e1 e2
      subst e1
      intro j hj
      exact .inl hj
    · have hr2 := run_append_grow (P := P) w t ty e i z ht hi hz0 ⟨g, 0, none⟩ n cap vs (by rw [hz1]; exact ho.1) (ho.cells (g := g) rfl) a m d ys (by rw [hz1, hl]) hy (by omega) (by omega) (hfit cap (by omega))
      rw [hr] at hr2
      injection hr2 with e1 e2
      subst e1
      intro j hj
      injection hj with hj
      exact .inr (Nat.le_of_eq hj)
/-- append(s, x...) -/
theorem append_sli {w : World} {B : Nat} {ty : TypeId} {A X : Option Addr} {n c m d : Nat} {xs ys : List α} {K : (Option Addr × Nat × Nat) → WP} (hE : ElemK P t e z E.k bytes) (ho : Owni E e w B A n c xs) (hB : B ≤ w.heap.size)
    (hx : Sli E w X m ys) (hlen : (n + m) * bytes ≤ 140737488355328) (hb : 0 < bytes)
    (hK : ∀ A' c' w', Owni E e w' B A' (n + m) c' (xs ++ ys) → Grew w w' (orow A) (orow A') → (A' = none ↔ A = none ∧ m = 0) → K (A', n + m, c') w') :
    runW P (Builtin.append_ #[t, t] ty #[.slice A n c, .slice X m d]) .slc K w := by
  have hE' := hE
  obtain ⟨ht, hi, hz⟩ := hE
  obtain ⟨i, hi, hii⟩ := Option.map_eq_some_iff.1 hi
  simp only [Prod.mk.injEq] at hii
  obtain ⟨hz0, hz1, hz2⟩ := hii
  have hl := hx.len
  have hm : n + m ≤ 140737488355328 := Nat.le_trans (Nat.le_mul_of_pos_right _ hb) hlen
  cases X with
  | none =>
    obtain rfl : m = 0 := by
      rcases Nat.eq_zero_or_pos m with h | h
      · exact h
      · obtain ⟨a, h1, _⟩ := hx.2.2 h; cases h1
    obtain rfl : ys = [] := List.eq_nil_of_length_eq_zero hl
    refine ⟨(A, n, c), w, run_append_noneK ht hi ho, ?_⟩
    have := hK A c w (by simpa using ho) (Grew.refl _ _) (by simp)
    simpa using this
  | some a =>
    have hcells : ∀ j u, (E.flat ys)[j]? = some u → w.cell? (a.add j) = some u := (fun j u hj => by
        rcases Nat.eq_zero_or_pos m with h | h
        · have : j < (E.flat ys).length := (List.getElem?_eq_some_iff.1 hj).1
          rw [E.flat_length, hl, h] at this
          omega
        · obtain ⟨a', h1, _, h2⟩ := hx.2.2 h
          cases h1
          exact h2 j u hj)
    have hfl : (E.flat ys).length = m * E.k := by rw [E.flat_length, hl]
    obtain ⟨v', w', hr, hown, hg, hn⟩ := run_append_own (P := P) w B t ty e i z E.k bytes ht hi hz0 hz1 hz2 hz E.pos (.slice A n c) n _ ho a m d (E.flat ys) hfl hcells (E.flat_one ys) (by simp only [maxLen]; omega) hlen hB
    have hrow := append_rowK hE' E.pos ho hfl hcells (E.flat_one ys) hlen hm hr
    rw [← Enc.flat_append] at hown
    have hnn : ∀ {A n c xs}, Owni E e w B A n c xs → (A = none ↔ Value.slice A n c = .slice none 0 0) := fun {A n c xs} h => by
      constructor
      · rintro rfl
        rcases h.2 with ⟨h1, _⟩ | ⟨g, cap, cur, hv, _⟩
        · exact h1
        · cases hv
      · intro h; injection h
    obtain ⟨A', c', rfl⟩ : ∃ A' c', v' = .slice A' (n + m) c' := by
      rcases hown.2 with ⟨h1, h2⟩ | ⟨g, cap, cur, hv, _⟩
      · exact ⟨none, 0, by rw [h1, h2]⟩
      · exact ⟨_, _, hv⟩
    refine ⟨(A', n + m, c'), w', hr, hK A' c' w' hown ⟨by rw [orow_eq] at hg; exact hg, fun j hj => ?_⟩ ?_⟩
    · have := hrow j (by rw [orow_eq]; exact hj)
      rw [orow_eq] at this
      exact this
    constructor
    · rintro rfl
      have : Value.slice none (n + m) c' = .slice none 0 0 := by
        rcases hown.2 with ⟨h1, _⟩ | ⟨g, cap, cur, hv, _⟩
        · exact h1
        · cases hv
      obtain ⟨h1, h2⟩ := hn.1 this
      exact ⟨(hnn ho).2 h1, h2⟩
    · rintro ⟨rfl, rfl⟩
      have := hn.2 ⟨(hnn ho).1 rfl, rfl⟩
      injection this
/-- append(s, y): the element's own block, then the append. -/
theorem append_newi {w : World} {B : Nat} {ty : TypeId} {A : Option Addr} {n c m : Nat} {xs ys : List α} {cs : Array Value} {K : (Option Addr × Nat × Nat) → WP} (hcs : cs = (E.flat ys).toArray) (hm : ys.length = m) (hE : ElemK P t e z E.k bytes) (ho : Owni E e w B A n c xs) (hB : B ≤ w.heap.size)
    (hlen : (n + m) * bytes ≤ 140737488355328) (hb : 0 < bytes)
    (hK : ∀ A' c' w', Owni E e w' B A' (n + m) c' (xs ++ ys) → Grew w w' (orow A) (orow A') → K (A', n + m, c') w') :
    (newW (.cells cs e) fun r => runW P (Builtin.append_ #[t, t] ty #[.slice A n c, .slice (some (⟨r, 0, none⟩ : Addr)) m m]) .slc K) w := by
  subst hcs
  apply newW_i
  have hmm : n + m ≤ 140737488355328 := Nat.le_trans (Nat.le_mul_of_pos_right _ hb) hlen
  have hblk : Blk (w.alloc (.cells (E.flat ys).toArray e)) w.heap.size (E.flat ys) e := by simpa using Blk.new w (E.flat ys).toArray e
  refine append_sli hE (World.ownsRow.alloc ho _) (by simp; omega) (Sli.of_blk hblk hm (by omega)) hlen hb ?_
  intro A' c' w' ho' hg _
  exact hK A' c' w' ho' ⟨grownBy_tr (World.grownBy_alloc w _ _) hg.grown (fun j hj => .inl hj), fun j hj => by
    rcases hg.next j hj with h | h
    · exact .inl h
    · right
      have : (w.alloc (.cells (E.flat ys).toArray e)).heap.size = w.heap.size + 1 := by simp
      omega⟩
end
/-- A new box, filled. -/
theorem box_i {w : World} {cs : Array Value} {t : TypeId} {vs : List Value} {K : Nat → WP} (hl : vs.length = cs.size) (hv : ∀ v ∈ vs, v.oneCell' = true)
    (hK : ∀ r w', Blk w' r vs t → Ext w w' → w.heap.size ≤ r → K r w') {n : Nat} {us : Array Value} (hu : us.size = n) : (newW (.cells cs t) fun r => guardW (us.size = n) <| stAW (⟨r, 0, none⟩ : Addr) vs (K r)) w := by
  apply newW_i
  have hb : Blk (w.alloc (.cells cs t)) w.heap.size cs.toList t := Blk.new w cs t
  have he : Ext w (w.alloc (.cells cs t)) := (Ext.refl w).alloc _
  refine ⟨hu, hb.storable_from vs 0 (by rw [hl]; simp) hv, hK _ _ ?_ (he.setCells (Nat.le_refl _) _ _) (Nat.le_refl _)⟩
  exact hb.setCells vs (by rw [hl]; simp)
theorem ldA_blk {w : World} {b : Nat} {cs : List Value} {t : TypeId} {ls : List Lf} {x : LT ls} {K : LT ls → WP} (h : Blk w b cs t) (hx : LT.vals ls x = cs) (hK : K x w) : ldAW ls ⟨b, 0, none⟩ K w := ⟨x, by rw [hx]; exact h.cellsAt, hK⟩
theorem own_full {e : TypeId} {w : World} {B b n : Nat} {vs : List Value} (h : Own e w B (some ⟨b, 0, none⟩) n n vs) : Blk w b vs e := by
  rcases h.2 with ⟨h1, h2⟩ | ⟨g, cap, cur, hv, hbg, hg, hnc, hcm, hcs, htake⟩
  · cases h1
  · injection hv with hv1 hv2 hv3
    injection hv1 with hv1
    injection hv1 with hv1
    subst hv1 hv3
    have : cur.toList = vs := by rw [← htake, List.take_of_length_le (by rw [Array.length_toList, hcs]; exact Nat.le_refl _)]
    show w.heap[b]? = _
    rw [hg, ← this]
theorem ld_blk {w : World} {b o : Nat} {cs : List Value} {t : TypeId} {l : Lf} {x : l.T} {K : l.T → WP} (h : Blk w b cs t) (hx : cs[o]? = some (l.val x)) (hK : K x w) : ldW l ((⟨b, 0, none⟩ : Addr).add o) K w := by
  rw [add_mk]
  exact ldW_blk h (by simpa using hx) hK
theorem ptr_i {w : World} {a : Addr} {K : Addr → WP} (h : K a w) : ptrW (some a) K w := ⟨a, rfl, h⟩
theorem guard_i {w : World} {p : Prop} {K : WP} (hp : p) (h : K w) : guardW p K w := ⟨hp, h⟩
theorem callVW_fn {P : Program} {g : FuncId} {cap : Array Value} {args : List Value} {r : Rs} {K : r.T → WP} {w : World} (hg : enterable P g = true) (h : callW P g (args ++ cap.toList) r K w) : callVW P (.func (.func g) #[] cap) args r K w := .inl ⟨g, cap, rfl, hg, h⟩
theorem ldA_i {w : World} {ls : List Lf} {a : Addr} {x : LT ls} {K : LT ls → WP} (h : CellsAt w a 0 (LT.vals ls x)) (hK : K x w) : ldAW ls a K w := ⟨x, h, hK⟩
theorem ld_i {w : World} {l : Lf} {a : Addr} {x : l.T} {K : l.T → WP} (h : w.cell? a = some (l.val x)) (hK : K x w) : ldW l a K w := ⟨x, h, hK⟩
end Go.Proofs.YtlpniinmomhkcaaDoor.V
