/- Texts of mine, merged (wip/tool/merge.py): HK, Str, Fr2, HR, HS, HX, DecMore, DecCounts, HM, HP, HB. -/
import Derived.Test.YtcjobbcijbkjkaaGreatM1
import Derived.ChangeKeysEq
import Derived.Lib.AppendStr
import Derived.Laws.BytesArg
import Derived.Laws.StructEq
import Derived.Deep.Slices
import Derived.Deep.Fields
import Derived.Lib.ConvBytes
import Derived.RangeFuncRecord
import Derived.Test.YtcjobbcijbkjkaaGreatChecked
import Derived.MapKept
import Derived.Lib.AppendZerosOnto
/- Slices of elements of several cells each. -/
set_option linter.unusedVariables false
set_option linter.unusedSimpArgs false
namespace Go.Proofs.YtcjobbcijbkjkaaGreat.V
open Go Go.RowKit

/-- How a value of a type lies in cells. -/
structure Enc (α : Type) where
  k : Nat
  f : α → List Value
  len : ∀ x, (f x).length = k
  one : ∀ x, ∀ v ∈ f x, v.oneCell' = true
  pos : 0 < k
variable {α : Type}
def Enc.flat (E : Enc α) (xs : List α) : List Value := xs.flatMap E.f
theorem Enc.flat_length (E : Enc α) (xs : List α) : (E.flat xs).length = xs.length * E.k := by
  induction xs with
  | nil => simp [Enc.flat]
  | cons x r ih =>
    have : E.flat (x :: r) = E.f x ++ E.flat r := rfl
    rw [this, List.length_append, E.len, ih, List.length_cons, Nat.add_mul, Nat.one_mul, Nat.add_comm]
theorem Enc.flat_append (E : Enc α) (xs ys : List α) : E.flat (xs ++ ys) = E.flat xs ++ E.flat ys := by simp [Enc.flat]
theorem Enc.flat_one (E : Enc α) (xs : List α) : ∀ v ∈ E.flat xs, v.oneCell' = true := by
  intro v hv
  obtain ⟨x, _, hx⟩ := List.mem_flatMap.1 hv
  exact E.one x v hx
theorem Enc.flat_get (E : Enc α) : ∀ (xs : List α) (i j : Nat), j < E.k → (E.flat xs)[i * E.k + j]? = (xs[i]?).bind fun x => (E.f x)[j]?
  | [], i, j, h => by simp [Enc.flat]
  | x :: r, i, j, h => by
    have e : E.flat (x :: r) = E.f x ++ E.flat r := rfl
    rw [e]
    cases i with
    | zero =>
      rw [Nat.zero_mul, Nat.zero_add, List.getElem?_append_left (by rw [E.len]; exact h)]
      rfl
    | succ i =>
      rw [List.getElem?_append_right (by rw [E.len, Nat.add_mul]; omega), E.len, show (i + 1) * E.k + j - E.k = i * E.k + j by rw [Nat.add_mul]; omega, Enc.flat_get E r i j h]
      rfl
theorem Enc.flat_drop (E : Enc α) : ∀ (n : Nat) (xs : List α), (E.flat xs).drop (n * E.k) = E.flat (xs.drop n)
  | 0, xs => by simp
  | n + 1, [] => by simp [Enc.flat]
  | n + 1, x :: r => by
    have e : E.flat (x :: r) = E.f x ++ E.flat r := rfl
    rw [e, List.drop_append, List.drop_of_length_le (by rw [E.len, Nat.add_mul]; omega), E.len, show (n + 1) * E.k - E.k = n * E.k by rw [Nat.add_mul]; omega, Enc.flat_drop E n r]
    rfl
theorem Enc.flat_take (E : Enc α) : ∀ (n : Nat) (xs : List α), (E.flat xs).take (n * E.k) = E.flat (xs.take n)
  | 0, xs => by simp [Enc.flat]
  | n + 1, [] => by simp [Enc.flat]
  | n + 1, x :: r => by
    have e : E.flat (x :: r) = E.f x ++ E.flat r := rfl
    rw [e, List.take_append, List.take_of_length_le (by rw [E.len, Nat.add_mul]; omega), E.len, show (n + 1) * E.k - E.k = n * E.k by rw [Nat.add_mul]; omega, Enc.flat_take E n r]
    rfl
/-- A slice that is read, of elements of E.k cells each. -/
def Sli (E : Enc α) (w : World) (A : Option Addr) (n : Nat) (xs : List α) : Prop := xs.length = n ∧ n ≤ 9223372036854775807 ∧ (0 < n → ∃ a, A = some a ∧ a.spot = none ∧ Cells w a (E.flat xs))
section
variable {E : Enc α} {w w' : World} {A : Option Addr} {n c : Nat} {xs : List α}
theorem Sli.len (h : Sli E w A n xs) : xs.length = n := h.1
theorem Sli.le (h : Sli E w A n xs) : n ≤ 9223372036854775807 := h.2.1
theorem Sli.ext (h : Sli E w A n xs) (he : Ext w w') : Sli E w' A n xs := ⟨h.1, h.2.1, fun hn => by
  obtain ⟨a, e, hs, hc⟩ := h.2.2 hn
  exact ⟨a, e, hs, fun j v hj => he.cell (hc j v hj)⟩⟩
theorem Sli.nil (w : World) (A : Option Addr) : Sli E w A 0 [] := ⟨rfl, by omega, fun h => absurd h (by omega)⟩
theorem Sli.drew (h : Sli E w A n xs) : Sli E w.drew A n xs := h
theorem Sli.of_blk {b : Nat} {t : TypeId} (h : Blk w b (E.flat xs) t) (hn : xs.length = n) (hm : n ≤ 9223372036854775807) : Sli E w (some ⟨b, 0, none⟩) n xs := ⟨hn, hm, fun _ => ⟨_, rfl, rfl, fun j v hj => by rw [add_mk, h.cell]; simpa using hj⟩⟩
theorem cellsAt_of {a : Addr} (hs : a.spot = none) {vs : List Value} {o : Nat} (h : ∀ (j : Nat) (v : Value), vs[j]? = some v → w.cell? (a.add (o + j)) = some v) : ∀ (us : List Value) (i : Nat), vs.drop i = us → CellsAt w (a.add o) i us
  | [], _, _ => trivial
  | v :: r, i, hd => by
    refine ⟨?_, cellsAt_of hs h r (i + 1) ?_⟩
    · rw [add_add a o i hs]
      apply h
      have := congrArg (fun l => l[0]?) hd
      simpa using this
    · have := congrArg (List.drop 1) hd
      simpa [List.drop_drop, Nat.add_comm] using this
/-- An element's cells. -/
theorem Sli.at_ (h : Sli E w A n xs) {i : Nat} {x : α} (hx : xs[i]? = some x) : ∃ a, A = some a ∧ a.spot = none ∧ CellsAt w (a.add (i * E.k)) 0 (E.f x) := by
  have hi : i < xs.length := (List.getElem?_eq_some_iff.1 hx).1
  obtain ⟨a, e, hs, hc⟩ := h.2.2 (by rw [← h.1]; omega)
  refine ⟨a, e, hs, cellsAt_of hs (vs := E.f x) (fun j v hj => ?_) _ 0 rfl⟩
  apply hc
  have hjk : j < E.k := by have := (List.getElem?_eq_some_iff.1 hj).1; rw [E.len] at this; exact this
  rw [E.flat_get _ _ _ hjk, hx]
  exact hj
theorem idx_el {i : Int} {x : α} {K : Addr → WP} {k : Nat} (h : Sli E w A n xs) (h0 : 0 ≤ i) (hx : xs[i.toNat]? = some x) (hk : E.k = k) (hK : ∀ a, a.spot = none → CellsAt w (a.add (Int.toNat i * k)) 0 (E.f x) → K a w) :
    (guardW (0 ≤ i ∧ i < ((n : Nat) : Int)) <| ptrW A K) w := by
  have hi : i.toNat < xs.length := (List.getElem?_eq_some_iff.1 hx).1
  obtain ⟨a, e, hs, hc⟩ := h.at_ hx
  rw [hk] at hc
  exact ⟨⟨h0, by have := h.1; omega⟩, a, e, hK a hs hc⟩
/-- s[l:h] -/
theorem Sli.cut (h : Sli E w A n xs) {l k m z : Nat} (hz : E.k = z) (hlk : l + k ≤ n) (hm : m = l → k = 0) : Sli E w (cutAddr A l m z) k ((xs.drop l).take k) := by
  subst hz
  refine ⟨by have := h.1; simp; omega, by have := h.2.1; omega, fun hk => ?_⟩
  obtain ⟨a, rfl, hs, hc⟩ := h.2.2 (by omega)
  refine ⟨a.add (l * E.k), ?_, ?_, fun j v hj => ?_⟩
  · unfold cutAddr
    rw [if_neg (fun e => by have := hm e; omega)]
    rfl
  · obtain ⟨b, o, s⟩ := a
    simp only at hs
    subst hs
    rw [add_mk]
  · rw [add_add a _ j hs]
    apply hc
    rw [← Enc.flat_take, ← Enc.flat_drop, List.getElem?_take] at hj
    split at hj
    · simpa using hj
    · cases hj
theorem Sli.cut0 (h : Sli E w A n xs) {k m z : Nat} (hz : E.k = z) (hk : k ≤ n) (hm : m = 0 → k = 0) : Sli E w (cutAddr A 0 m z) k (xs.take k) := by simpa using h.cut (l := 0) (k := k) (m := m) hz (by omega) hm
end
/-- A slice of one's own, of elements of E.k cells each. -/
def Owni (E : Enc α) (e : TypeId) (w : World) (B : Nat) (A : Option Addr) (n c : Nat) (xs : List α) : Prop := w.ownsRow B e E.k (.slice A n c) n (E.flat xs)
section
variable {E : Enc α} {e : TypeId} {w w' : World} {B B' : Nat} {A : Option Addr} {n c : Nat} {xs : List α}
theorem Owni.len (h : Owni E e w B A n c xs) : xs.length = n := by
  have := h.1
  rw [E.flat_length] at this
  exact Nat.eq_of_mul_eq_mul_right E.pos this
theorem Owni.le (h : Owni E e w B A n c xs) : n ≤ c ∧ c ≤ 9223372036854775807 := by
  rcases h.2 with ⟨h1, h2⟩ | ⟨g, cap, cur, hv, hb, hh, h1, h2, h3, h4⟩
  · injection h1 with h1 h3 h4; subst h3 h4; omega
  · injection hv with hv1 hv2 hv3; subst hv3; simp only [maxLen] at h2; omega
theorem Owni.sl (h : Owni E e w B A n c xs) : Sli E w A n xs := by
  refine ⟨h.len, by have := h.le; omega, fun hn => ?_⟩
  rcases h.2 with ⟨h1, h2⟩ | ⟨g, cap, cur, hv, hb, hh, h1, h2, h3, h4⟩
  · omega
  · injection hv with hv1 hv2 hv3
    subst hv1 hv3
    exact ⟨_, rfl, rfl, fun j v hj => World.ownsRow.cells h (g := g) rfl j v hj⟩
theorem Owni.ext (h : Owni E e w B A n c xs) (he : Ext w w') : Owni E e w' B A n c xs := World.ownsRow.kept h (grownBy_of_ext he none) (by cases Value.ownBlock (.slice A n c) <;> simp)
theorem Owni.lower (h : Owni E e w B A n c xs) (hB : B' ≤ B) : Owni E e w B' A n c xs := by
  refine ⟨h.1, ?_⟩
  rcases h.2 with h1 | ⟨g, cap, cur, hv, hb, r⟩
  · exact .inl h1
  · exact .inr ⟨g, cap, cur, hv, by omega, r⟩
theorem Owni.row (h : Owni E e w B A n c xs) : ∀ j, orow A = some j → B ≤ j := fun j hj => (World.ownsRow.lt h j (by rw [orow_eq]; exact hj)).1
theorem Owni.row_lt (h : Owni E e w B A n c xs) : ∀ j, orow A = some j → j < w.heap.size := fun j hj => (World.ownsRow.lt h j (by rw [orow_eq]; exact hj)).2
theorem Owni.nil (e : TypeId) (w : World) (B : Nat) : Owni E e w B none 0 0 [] := World.ownsRow_nil w B e E.k
theorem Owni.grown {row : Option Nat} (h : Owni E e w B A n c xs) (hg : w.grownBy w' row) (hr : ∀ j, row = some j → orow A ≠ some j) : Owni E e w' B A n c xs :=
  World.ownsRow.kept h hg (match A, h with
    | none, _ => .inl rfl
    | some a, h => .inr fun he => hr a.block he.symm rfl)
theorem Owni.lit {xs : List α} {n : Nat} (hn : xs.length = n) (hB : B ≤ w.heap.size) (hm : n ≤ 9223372036854775807) : Owni E e (w.alloc (.cells (E.flat xs).toArray e)) B (some ⟨w.heap.size, 0, none⟩) n n xs := by
  have := World.ownsRow_lit (base := B) (e := e) (size := E.k) w (E.flat xs).toArray n hB (by simpa [maxLen] using hm) (by simp [E.flat_length, hn])
  exact this
end
/-- What is told of an element type of k cells. -/
def ElemK (P : Program) (t e : TypeId) (z : Value) (k bytes : Nat) : Prop := P.underlying t = some (.slice e) ∧ ((P.info? e).map fun i => (i.zero, i.size, i.bytes)) = some (some z, k, bytes) ∧ z.cells.size = k
section
variable {P : Program} {t e : TypeId} {z : Value} {bytes : Nat} {E : Enc α}
theorem run_append_noneK {w : World} {B k : Nat} {ty : TypeId} {i : TypeInfo} {v : Value} {n d : Nat} {xs : List Value} (ht : P.underlying t = some (.slice e)) (hi : P.info? e = some i) (hown : w.ownsRow B e k v n xs) :
    (Builtin.append_ #[t, t] ty #[v, .slice none 0 d]).run P w = .ok v w := by
  rcases hown.2 with ⟨rfl, rfl⟩ | ⟨g, cap, cur, rfl, _, _, hnc, _⟩
  · simp [Builtin.append_, run_underlying ht, sizeOf, typeInfo, hi, Builtin.lenOf, Builtin.firstCells]
  · simp [Builtin.append_, run_underlying ht, sizeOf, typeInfo, hi, Builtin.lenOf, Builtin.firstCells, hnc, storeCells]
theorem append_rowK {w w' : World} {B k : Nat} {ty : TypeId} {A : Option Addr} {a : Addr} {n c m d : Nat} {vs ys : List Value} {v' : Value} (hE : ElemK P t e z k bytes) (hk : 0 < k) (ho : w.ownsRow B e k (.slice A n c) n vs)
    (hl : ys.length = m * k) (hy : ∀ j u, ys[j]? = some u → w.cell? (a.add j) = some u) (hys : ∀ y ∈ ys, y.oneCell' = true) (hlen : (n + m) * bytes ≤ 140737488355328) (hnm : n + m ≤ 140737488355328)
    (hr : (Builtin.append_ #[t, t] ty #[.slice A n c, .slice (some a) m d]).run P w = .ok v' w') : ∀ j, v'.ownBlock = some j → Value.ownBlock (.slice A n c) = some j ∨ w.heap.size ≤ j := by
  obtain ⟨ht, hi, hz⟩ := hE
  obtain ⟨i, hi, hii⟩ := Option.map_eq_some_iff.1 hi
  simp only [Prod.mk.injEq] at hii
  obtain ⟨hz0, hz1, hz2⟩ := hii
  have hfit : ∀ old, old < n + m → Builtin.nextslicecap (n + m) old * i.bytes ≤ 281474976710656 := fun old ho => growslice_fits (by omega) (by rw [hz2]; exact hlen)
  rcases ho.2 with ⟨h1, h2⟩ | ⟨g, cap, cur, hv, hbg, hg, hnc, hcm, hcs, htake⟩
  · rw [h1] at hr ⊢
    subst h2
    by_cases hm0 : m = 0
    · subst hm0
      have hn : ys = [] := List.eq_nil_of_length_eq_zero (by simpa using hl)
      subst hn
      have hr2 : (Builtin.append_ #[t, t] ty #[.slice none 0 0, .slice (some a) 0 d]).run P w = .ok (.slice none 0 0) w := by
        simp [Builtin.append_, run_underlying ht, sizeOf, typeInfo, hi, Builtin.lenOf, Builtin.firstCells, loadCells, loadCellsFrom]
      rw [hr] at hr2
      injection hr2 with e1 e2
      subst e1
      intro j hj
      exact .inl hj
    · have hr2 := run_append_nil (P := P) w t ty e i z ht hi hz0 a m d ys (by rw [hz1, hl]) hy (by omega) (by omega) (by rw [hz2]; simp only [Nat.zero_add] at hlen; omega)
      rw [hr] at hr2
      injection hr2 with e1 e2
      subst e1
      intro j hj
      injection hj with hj
      exact .inr (Nat.le_of_eq hj)
  · rw [hv] at hr ho ⊢
    by_cases hroom : n + m ≤ cap
    · obtain ⟨w2, hr2, _⟩ := run_append_fits (P := P) w B t ty e i k ht hi hz1 g n cap vs ho a m d ys hl hy hys hroom
      rw [hr] at hr2
      injection hr2 with e1 e2
      subst e1
      intro j hj
      exact .inl hj
    · have hr2 := run_append_grow (P := P) w t ty e i z ht hi hz0 ⟨g, 0, none⟩ n cap vs (by rw [hz1]; exact ho.1) (ho.cells (g := g) rfl) a m d ys (by rw [hz1, hl]) hy (by omega) (by omega) (hfit cap (by omega))
      rw [hr] at hr2
      injection hr2 with e1 e2
      subst e1
      intro j hj
      injection hj with hj
      exact .inr (Nat.le_of_eq hj)
/-- append(s, x...) -/
theorem append_sli {w : World} {B : Nat} {ty : TypeId} {A X : Option Addr} {n c m d : Nat} {xs ys : List α} {K : (Option Addr × Nat × Nat) → WP} (hE : ElemK P t e z E.k bytes) (ho : Owni E e w B A n c xs) (hB : B ≤ w.heap.size)
    (hx : Sli E w X m ys) (hlen : (n + m) * bytes ≤ 140737488355328) (hb : 0 < bytes)
    (hK : ∀ A' c' w', Owni E e w' B A' (n + m) c' (xs ++ ys) → Grew w w' (orow A) (orow A') → (A' = none ↔ A = none ∧ m = 0) → K (A', n + m, c') w') :
    runW P (Builtin.append_ #[t, t] ty #[.slice A n c, .slice X m d]) .slc K w := by
  have hE' := hE
  obtain ⟨ht, hi, hz⟩ := hE
  obtain ⟨i, hi, hii⟩ := Option.map_eq_some_iff.1 hi
  simp only [Prod.mk.injEq] at hii
  obtain ⟨hz0, hz1, hz2⟩ := hii
  have hl := hx.len
  have hm : n + m ≤ 140737488355328 := Nat.le_trans (Nat.le_mul_of_pos_right _ hb) hlen
  cases X with
  | none =>
    obtain rfl : m = 0 := by
      rcases Nat.eq_zero_or_pos m with h | h
      · exact h
      · obtain ⟨a, h1, _⟩ := hx.2.2 h; cases h1
    obtain rfl : ys = [] := List.eq_nil_of_length_eq_zero hl
    refine ⟨(A, n, c), w, run_append_noneK ht hi ho, ?_⟩
    have := hK A c w (by simpa using ho) (Grew.refl _ _) (by simp)
    simpa using this
  | some a =>
    have hcells : ∀ j u, (E.flat ys)[j]? = some u → w.cell? (a.add j) = some u := (fun j u hj => by
        rcases Nat.eq_zero_or_pos m with h | h
        · have : j < (E.flat ys).length := (List.getElem?_eq_some_iff.1 hj).1
          rw [E.flat_length, hl, h] at this
          omega
        · obtain ⟨a', h1, _, h2⟩ := hx.2.2 h
          cases h1
          exact h2 j u hj)
    have hfl : (E.flat ys).length = m * E.k := by rw [E.flat_length, hl]
    obtain ⟨v', w', hr, hown, hg, hn⟩ := run_append_own (P := P) w B t ty e i z E.k bytes ht hi hz0 hz1 hz2 hz E.pos (.slice A n c) n _ ho a m d (E.flat ys) hfl hcells (E.flat_one ys) (by simp only [maxLen]; omega) hlen hB
    have hrow := append_rowK hE' E.pos ho hfl hcells (E.flat_one ys) hlen hm hr
    rw [← Enc.flat_append] at hown
    have hnn : ∀ {A n c xs}, Owni E e w B A n c xs → (A = none ↔ Value.slice A n c = .slice none 0 0) := fun {A n c xs} h => by
      constructor
      · rintro rfl
        rcases h.2 with ⟨h1, _⟩ | ⟨g, cap, cur, hv, _⟩
        · exact h1
        · cases hv
      · intro h; injection h
    obtain ⟨A', c', rfl⟩ : ∃ A' c', v' = .slice A' (n + m) c' := by
      rcases hown.2 with ⟨h1, h2⟩ | ⟨g, cap, cur, hv, _⟩
      · exact ⟨none, 0, by rw [h1, h2]⟩
      · exact ⟨_, _, hv⟩
    refine ⟨(A', n + m, c'), w', hr, hK A' c' w' hown ⟨by rw [orow_eq] at hg; exact hg, fun j hj => ?_⟩ ?_⟩
    · have := hrow j (by rw [orow_eq]; exact hj)
      rw [orow_eq] at this
      exact this
    constructor
    · rintro rfl
      have : Value.slice none (n + m) c' = .slice none 0 0 := by
        rcases hown.2 with ⟨h1, _⟩ | ⟨g, cap, cur, hv, _⟩
        · exact h1
        · cases hv
      obtain ⟨h1, h2⟩ := hn.1 this
      exact ⟨(hnn ho).2 h1, h2⟩
    · rintro ⟨rfl, rfl⟩
      have := hn.2 ⟨(hnn ho).1 rfl, rfl⟩
      injection this
/-- append(s, y): the element's own block, then the append. -/
theorem append_newi {w : World} {B : Nat} {ty : TypeId} {A : Option Addr} {n c m : Nat} {xs ys : List α} {cs : Array Value} {K : (Option Addr × Nat × Nat) → WP} (hcs : cs = (E.flat ys).toArray) (hm : ys.length = m) (hE : ElemK P t e z E.k bytes) (ho : Owni E e w B A n c xs) (hB : B ≤ w.heap.size)
    (hlen : (n + m) * bytes ≤ 140737488355328) (hb : 0 < bytes)
    (hK : ∀ A' c' w', Owni E e w' B A' (n + m) c' (xs ++ ys) → Grew w w' (orow A) (orow A') → K (A', n + m, c') w') :
    (newW (.cells cs e) fun r => runW P (Builtin.append_ #[t, t] ty #[.slice A n c, .slice (some (⟨r, 0, none⟩ : Addr)) m m]) .slc K) w := by
  subst hcs
  apply newW_i
  have hmm : n + m ≤ 140737488355328 := Nat.le_trans (Nat.le_mul_of_pos_right _ hb) hlen
  have hblk : Blk (w.alloc (.cells (E.flat ys).toArray e)) w.heap.size (E.flat ys) e := by simpa using Blk.new w (E.flat ys).toArray e
  refine append_sli hE (World.ownsRow.alloc ho _) (by simp; omega) (Sli.of_blk hblk hm (by omega)) hlen hb ?_
  intro A' c' w' ho' hg _
  exact hK A' c' w' ho' ⟨grownBy_tr (World.grownBy_alloc w _ _) hg.grown (fun j hj => .inl hj), fun j hj => by
    rcases hg.next j hj with h | h
    · exact .inl h
    · right
      have : (w.alloc (.cells (E.flat ys).toArray e)).heap.size = w.heap.size + 1 := by simp
      omega⟩
end
/-- A new box, filled. -/
theorem box_i {w : World} {cs : Array Value} {t : TypeId} {vs : List Value} {K : Nat → WP} (hl : vs.length = cs.size) (hv : ∀ v ∈ vs, v.oneCell' = true)
    (hK : ∀ r w', Blk w' r vs t → Ext w w' → w.heap.size ≤ r → K r w') {n : Nat} {us : Array Value} (hu : us.size = n) : (newW (.cells cs t) fun r => guardW (us.size = n) <| stAW (⟨r, 0, none⟩ : Addr) vs (K r)) w := by
  apply newW_i
  have hb : Blk (w.alloc (.cells cs t)) w.heap.size cs.toList t := Blk.new w cs t
  have he : Ext w (w.alloc (.cells cs t)) := (Ext.refl w).alloc _
  refine ⟨hu, hb.storable_from vs 0 (by rw [hl]; simp) hv, hK _ _ ?_ (he.setCells (Nat.le_refl _) _ _) (Nat.le_refl _)⟩
  exact hb.setCells vs (by rw [hl]; simp)
theorem ldA_blk {w : World} {b : Nat} {cs : List Value} {t : TypeId} {ls : List Lf} {x : LT ls} {K : LT ls → WP} (h : Blk w b cs t) (hx : LT.vals ls x = cs) (hK : K x w) : ldAW ls ⟨b, 0, none⟩ K w := ⟨x, by rw [hx]; exact h.cellsAt, hK⟩
theorem own_full {e : TypeId} {w : World} {B b n : Nat} {vs : List Value} (h : Own e w B (some ⟨b, 0, none⟩) n n vs) : Blk w b vs e := by
  rcases h.2 with ⟨h1, h2⟩ | ⟨g, cap, cur, hv, hbg, hg, hnc, hcm, hcs, htake⟩
  · cases h1
  · injection hv with hv1 hv2 hv3
    injection hv1 with hv1
    injection hv1 with hv1
    subst hv1 hv3
    have : cur.toList = vs := by rw [← htake, List.take_of_length_le (by rw [Array.length_toList, hcs]; exact Nat.le_refl _)]
    show w.heap[b]? = _
    rw [hg, ← this]
theorem ld_blk {w : World} {b o : Nat} {cs : List Value} {t : TypeId} {l : Lf} {x : l.T} {K : l.T → WP} (h : Blk w b cs t) (hx : cs[o]? = some (l.val x)) (hK : K x w) : ldW l ((⟨b, 0, none⟩ : Addr).add o) K w := by
  rw [add_mk]
  exact ldW_blk h (by simpa using hx) hK
theorem ptr_i {w : World} {a : Addr} {K : Addr → WP} (h : K a w) : ptrW (some a) K w := ⟨a, rfl, h⟩
theorem guard_i {w : World} {p : Prop} {K : WP} (hp : p) (h : K w) : guardW p K w := ⟨hp, h⟩
theorem callVW_fn {P : Program} {g : FuncId} {cap : Array Value} {args : List Value} {r : Rs} {K : r.T → WP} {w : World} (hg : enterable P g = true) (h : callW P g (args ++ cap.toList) r K w) : callVW P (.func (.func g) #[] cap) args r K w := .inl ⟨g, cap, rfl, hg, h⟩
theorem ldA_i {w : World} {ls : List Lf} {a : Addr} {x : LT ls} {K : LT ls → WP} (h : CellsAt w a 0 (LT.vals ls x)) (hK : K x w) : ldAW ls a K w := ⟨x, h, hK⟩
theorem ld_i {w : World} {l : Lf} {a : Addr} {x : l.T} {K : l.T → WP} (h : w.cell? a = some (l.val x)) (hK : K x w) : ldW l a K w := ⟨x, h, hK⟩
end Go.Proofs.YtcjobbcijbkjkaaGreat.V

/- Strings as lists of bytes. It speaks of no program. -/
set_option linter.unusedVariables false
set_option linter.unusedSimpArgs false
namespace Go.Proofs.YtcjobbcijbkjkaaGreat.V
open Go Go.Lib

def B (s : ByteArray) : List UInt8 := s.data.toList
theorem B_size (s : ByteArray) : s.size = (B s).length := by
  show s.data.size = s.data.toList.length
  rw [Array.length_toList]
theorem B_inj {a b : ByteArray} (h : B a = B b) : a = b := ByteArray.ext (Array.toList_inj.1 h)
theorem B_mk (l : List UInt8) : B ⟨l.toArray⟩ = l := rfl
theorem B_append (a b : ByteArray) : B (a ++ b) = B a ++ B b := by simp [B]
theorem B_extract (s : ByteArray) (i j : Nat) : B (s.extract i j) = ((B s).drop i).take (j - i) := by
  simp [B, ByteArray.data_extract, List.drop_take]
theorem str_beq (a b : ByteArray) : (a.toList == b.toList) = decide (B a = B b) := by
  rw [ByteArray.toList_eq, ByteArray.toList_eq]
  unfold B
  rw [Bool.eq_iff_iff, beq_iff_eq, decide_eq_true_iff]
theorem bt_eq {s : ByteArray} {i : Int} (h0 : 0 ≤ i) (h1 : i < (s.size : Int)) : bt s i = (((B s).getD i.toNat 0).toNat : Int) := by
  have hlt : i.toNat < s.data.size := by have : s.data.size = s.size := rfl; omega
  unfold bt B
  rw [Array.getElem?_eq_getElem hlt]
  simp only [Option.map_some, Option.getD_some, List.getD_eq_getElem?_getD, Array.getElem?_toList, Array.getElem?_eq_getElem hlt]
theorem get_B {s : ByteArray} {i : Nat} (h : i < s.size) : s.get! i = (B s).getD i 0 := by
  have hlt : i < s.data.size := h
  unfold B
  simp only [ByteArray.get!, List.getD_eq_getElem?_getD, Array.getElem?_toList, Array.getElem?_eq_getElem hlt, Option.getD_some]
  rw [getElem!_pos s.data i hlt]
theorem decode_ascii {s : ByteArray} {i : Nat} (h : i < s.size) (hb : ((B s).getD i 0).toNat < 128) : Utf8.decode s i = (((B s).getD i 0).toNat, 1) := by
  unfold Utf8.decode
  simp only [Nat.add_zero, get_B h]
  rw [if_pos hb]
theorem decode_other {s : ByteArray} {i : Nat} (h : i < s.size) (hb : ¬ ((B s).getD i 0).toNat < 128) : 128 ≤ (Utf8.decode s i).1 := by
  unfold Utf8.decode
  simp only [Nat.add_zero, get_B h]
  rw [if_neg hb]
  repeat' split
  all_goals first | (simp only [Utf8.runeError]; omega) | skip
  all_goals (rename_i h1; first | omega | (simp only [Bool.and_eq_true, decide_eq_true_eq, ge_iff_le] at h1; omega))
theorem Ext.setO {a w : World} (h : Ext a w) {l : Nat} (hl : a.heap.size ≤ l) (o : Obj) : Ext a (setO w l o) :=
  ⟨h.os, h.tape, h.output, by
    show _ ≤ (w.heap.setIfInBounds l o).size
    rw [Array.size_setIfInBounds]
    exact h.size, fun k hk => by
    show (w.heap.setIfInBounds l o)[k]? = _
    rw [Array.getElem?_setIfInBounds_ne (by omega)]
    exact h.block k hk⟩
theorem setO_same {w : World} {l : Nat} {o : Obj} (h : l < w.heap.size) : (setO w l o).heap[l]? = some o := by
  simp only [setO]
  rw [Array.getElem?_setIfInBounds_self_of_lt h]
theorem setO_other {w : World} {l k : Nat} {o : Obj} (h : l ≠ k) : (setO w l o).heap[k]? = w.heap[k]? := by
  simp only [setO]
  rw [Array.getElem?_setIfInBounds_ne h]
theorem setO_size {w : World} {l : Nat} {o : Obj} : (setO w l o).heap.size = w.heap.size := by simp [setO]
theorem strCells_eq (s : ByteArray) : strCells s = bV (B s) := rfl
section
variable {P : Program} {t u e d : TypeId}
/-- append(s, "..."...) -/
theorem append_str {w : World} {B0 : Nat} {ty : TypeId} {A : Option Addr} {n c : Nat} {bs : List UInt8} {s : ByteArray} {K : (Option Addr × Nat × Nat) → WP} (hE : Elem P t e (.int .u8 0) 1) (hu : P.underlying u = some .string) (ho : Own e w B0 A n c (bV bs)) (hB : B0 ≤ w.heap.size)
    (hlen : n + s.size ≤ 140737488355328)
    (hK : ∀ A' c' w', Own e w' B0 A' (n + s.size) c' (bV (bs ++ B s)) → Grew w w' (orow A) (orow A') → K (A', n + s.size, c') w') :
    runW P (Builtin.append_ #[t, u] ty #[.slice A n c, .string s]) .slc K w := by
  obtain ⟨ht, hi, hz⟩ := hE
  obtain ⟨i, hi, hii⟩ := Option.map_eq_some_iff.1 hi
  simp only [Prod.mk.injEq] at hii
  obtain ⟨hz0, hz1, hz2⟩ := hii
  obtain ⟨v', w', hr, hown, hg, hn⟩ := run_append_own_string (P := P) w B0 t u ty e i ht hu hi hz0 hz1 hz2 (.slice A n c) n _ ho s (by simp only [maxLen]; omega) hlen hB
  have hrow : ∀ j, v'.ownBlock = some j → Value.ownBlock (.slice A n c) = some j ∨ w.heap.size ≤ j := by
    rcases ho.2 with ⟨h1, h2⟩ | ⟨g, cap, cur, hv, hbg, hg, hnc, hcm, hcs, htake⟩
    · rw [h1] at hr ⊢
      subst h2
      by_cases hm0 : s.size = 0
      · have := hn.2 ⟨h1, hm0⟩
        rw [this]
        intro j hj
        exact .inl hj
      · have hr2 := run_append_nil_string (P := P) w t u ty e i (.int .u8 0) ht hu hi hz0 s (by omega) (by omega) (by rw [hz2]; omega)
        rw [hr] at hr2
        injection hr2 with e1 e2
        subst e1
        intro j hj
        injection hj with hj
        exact .inr (Nat.le_of_eq hj)
    · unfold Own at ho
      rw [hv] at hr ho ⊢
      by_cases hroom : n + s.size ≤ cap
      · have hr2 := run_append_room_string (P := P) w t u ty e i ht hu hi hz1 g n cap cur hg s hroom (by omega)
        rw [hr] at hr2
        injection hr2 with e1 e2
        subst e1
        intro j hj
        exact .inl hj
      · have hr2 := run_append_grow_string (P := P) w t u ty e i (.int .u8 0) ht hu hi hz0 ⟨g, 0, none⟩ n cap (bV bs) (by rw [hz1]; exact ho.1) (World.ownsRow.cells ho (g := g) rfl) s (by omega) (by omega) (growslice_fits (by omega) (by rw [hz2]; omega))
        rw [hr] at hr2
        injection hr2 with e1 e2
        subst e1
        intro j hj
        injection hj with hj
        exact .inr (Nat.le_of_eq hj)
  rw [strCells_eq, ← bV_append] at hown
  obtain ⟨A', c', rfl⟩ : ∃ A' c', v' = .slice A' (n + s.size) c' := by
    rcases hown.2 with ⟨h1, h2⟩ | ⟨g, cap, cur, hv, _⟩
    · exact ⟨none, 0, by rw [h1, h2]⟩
    · exact ⟨_, _, hv⟩
  refine ⟨(A', n + s.size, c'), w', hr, hK A' c' w' hown ⟨by rw [orow_eq] at hg; exact hg, fun j hj => ?_⟩⟩
  have := hrow j (by rw [orow_eq]; exact hj)
  rw [orow_eq] at this
  exact this
/-- string(b) -/
theorem conv_str {w : World} {A : Option Addr} {n c : Nat} {bs : List UInt8} {K : ByteArray → WP} (ht : P.underlying t = some (.slice e)) (he : P.underlying e = some (.int .u8)) (hd : P.underlying d = some .string) (h : Sl w A n (bV bs)) (hK : K ⟨bs.toArray⟩ w) :
    runW P (convert t d (.slice A n c)) .str K w := by
  refine ⟨⟨bs.toArray⟩, w, ?_, hK⟩
  have hl := h.blen
  cases A with
  | none =>
    obtain rfl : n = 0 := by
      rcases Nat.eq_zero_or_pos n with h0 | h0
      · exact h0
      · obtain ⟨a, h1, _⟩ := h.2.2 h0; cases h1
    obtain rfl : bs = [] := List.eq_nil_of_length_eq_zero hl
    exact run_convert_bytes_nil (P := P) w t e ht he 0 c d hd
  | some a =>
    have hload : (loadCells a n).run P w = .ok ((bs.map fun b => (b.toNat : Int)).map (Value.int .u8)).toArray w := by
      have e1 : (bs.map fun b => (b.toNat : Int)).map (Value.int .u8) = bV bs := by simp [bV]
      rw [e1]
      have := run_loadCells_list (P := P) w a (bV bs) (fun j v hj => by
        have hn : 0 < n := by
          have := (List.getElem?_eq_some_iff.1 hj).1
          rw [length_bV] at this
          omega
        obtain ⟨a', h1, h2⟩ := h.2.2 hn
        cases h1
        exact h2 j v hj)
      rw [length_bV, hl] at this
      exact this
    rw [run_convert_bytes_string w t d e _ n c ht he hd, run_bytesToString w _ n c _ hload, foldl_push_bytes]
    congr 1
    show Value.string _ = Value.string _
    congr 1
    apply ByteArray.ext
    apply Array.toList_inj.1
    simp only [ByteArray.empty, ByteArray.emptyWithCapacity, Array.toList_append, List.map_map]
    have e2 : (bs.map ((fun n : Int => UInt8.ofNat n.toNat) ∘ fun b : UInt8 => (b.toNat : Int))) = bs := by
      conv => rhs; rw [← List.map_id bs]
      apply List.map_congr_left
      intro b _
      simp
    rw [e2]
    rfl
end
section
variable {P : Program} {w : World}
theorem eqFields_step {d : Nat} {xs ys : Array Value} {f : Field} {fs : List Field} {a b : Value} {r : Bool} (hn : f.name ≠ "_") (ha : (part f.type xs f.offset).run P w = .ok a w) (hb : (part f.type ys f.offset).run P w = .ok b w) (he : (Op.equalIn d f.type a b).run P w = .ok r w)
    {q : Bool} (hq : (Op.eqFields d xs ys fs).run P w = .ok q w) : (Op.eqFields d xs ys (f :: fs)).run P w = .ok (r && q) w := by
  simp only [Op.eqFields, if_pos hn, Sem.run_bind, ha, hb, he, Result.andThen_ok, Sem.run_ite]
  cases r
  · simp [Sem.run_pure]
  · simp [hq]
theorem eqS_neq {t : TypeId} {x y : Operand} {xs ys : Array Value} {q : Bool} (hg : P.eqGuardType P.depth t = false) (ht : P.underlying t = some (.struct (P.fieldsOf t))) (hp : P.stoodInHeld t = false) (h : (Op.eqFields 9999 xs ys (P.fieldsOf t).toList).run P w = .ok q w) :
    (eqS .neq t x y (.agg xs) (.agg ys)).run P w = .ok (.bool (!q)) w := by
  unfold eqS
  rw [Sem.run_bind, run_eqGuard_agg w _ _ _ _ _ _ hg]
  simp only [Result.andThen_ok]
  rw [run_neq_struct, run_equalIn_agg w 9999 t xs ys ht hp, h]
  rfl
theorem eqS_eql {t : TypeId} {x y : Operand} {xs ys : Array Value} {q : Bool} (hg : P.eqGuardType P.depth t = false) (ht : P.underlying t = some (.struct (P.fieldsOf t))) (hp : P.stoodInHeld t = false) (h : (Op.eqFields 9999 xs ys (P.fieldsOf t).toList).run P w = .ok q w) :
    (eqS .eql t x y (.agg xs) (.agg ys)).run P w = .ok (.bool q) w := by
  unfold eqS
  rw [Sem.run_bind, run_eqGuard_agg w _ _ _ _ _ _ hg]
  simp only [Result.andThen_ok]
  rw [run_eql_struct, run_equalIn_agg w 9999 t xs ys ht hp, h]
  rfl
end
end Go.Proofs.YtcjobbcijbkjkaaGreat.V

/- What comes in, opened: rows of structs. It speaks of no program. -/
set_option linter.unusedVariables false
set_option linter.unusedSimpArgs false
namespace Go.Proofs.YtcjobbcijbkjkaaGreat.V
open Go Go.ChangeShapes Go.WideShapes Go.ChangeAt Go.RowKit Go.Deep
def fieldsOf (P : Program) (t : TypeId) : Array Field := match P.underlying t with
  | some (.struct fs) => fs
  | _ => #[]
theorem exists_list {α : Type} {Q : Nat → α → Prop} : ∀ (n : Nat), (∀ i, i < n → ∃ x, Q i x) → ∃ xs : List α, xs.length = n ∧ ∀ i x, xs[i]? = some x → Q i x
  | 0, _ => ⟨[], rfl, fun i x h => by simp at h⟩
  | n + 1, h => by
    obtain ⟨xs, hl, hq⟩ := exists_list n (fun i hi => h i (by omega))
    obtain ⟨x, hx⟩ := h n (by omega)
    refine ⟨xs ++ [x], by simp [hl], fun i y hy => ?_⟩
    rcases Nat.lt_or_ge i n with hi | hi
    · rw [List.getElem?_append_left (by omega)] at hy
      exact hq i y hy
    · rw [List.getElem?_append_right (by omega), hl] at hy
      have hin : i - n = 0 := by
        rcases Nat.eq_zero_or_pos (i - n) with h0 | h0
        · exact h0
        · rw [List.getElem?_eq_none (by simp; omega)] at hy; cases hy
      rw [hin] at hy
      have : i = n := by omega
      subst this
      have hxy : x = y := by simpa using hy
      subst hxy
      exact hx
section
variable {H : Type} {enc : TypeId × Value → H} {P : Program} {w : World} {base : Nat} {spare : Nat → Bool} {held : Bool} {α : Type}
/-- A slice of rows that came in. -/
theorem open_rows {E : Enc α} {Q : α → Prop} {t e : TypeId} {v : Value} {d : DataW H} {ps : List MemPlace} {r : Reach} {b0 : Nat} (ht : P.underlying t = some (.slice e)) (hC : P.cellsOf e = E.k)
    (hdec : ∀ (n : Nat) (cs' : List Value) (x' : DataW H × List MemPlace), DataW.trod enc P w base (fun _ => true) held n e cs' = some x' → ∃ x : α, E.f x = cs' ∧ Q x)
    (hv : Value.okWide P w r b0 t v) (h : DataW.Trod enc P w base (fun _ => true) held t v d ps) : ∃ A n c xs, v = .slice A n c ∧ Sli E w A n xs ∧ n ≤ c ∧ ∀ x ∈ xs, Q x := by
  obtain ⟨A, n, c, rfl⟩ := okWide_slice ht hv
  obtain ⟨fuel, hf⟩ := h
  rcases open_slice ht hf with ⟨hcs, _⟩ | ⟨a, len, cap, m, k, D, Pl, hcs, hb, hl, hm, hmm, hx, hi⟩
  · simp [Value.cells] at hcs
    obtain ⟨rfl, rfl, rfl⟩ := hcs
    exact ⟨_, _, _, [], rfl, Sli.nil _ _, by omega, fun x hx => by cases hx⟩
  · simp [Value.cells] at hcs
    obtain ⟨rfl, rfl, rfl⟩ := hcs
    have hmc : m = c := by simpa using hmm
    have hall : ∀ i, i < n → ∃ x : α, (∀ (j : Nat) (u : Value), (E.f x)[j]? = some u → w.cell? ((a.add (i * E.k)).add j) = some u) ∧ Q x := by
      intro i hin
      obtain ⟨cs', hc, ht'⟩ := hi i (by omega)
      obtain ⟨x, hxe, hq⟩ := hdec k cs' _ ht'
      obtain ⟨_, hcl, hat⟩ := World.cells?_some hc
      rw [hC] at hcl hat
      refine ⟨x, fun j u hj => ?_, hq⟩
      have hjk : j < E.k := by have := (List.getElem?_eq_some_iff.1 hj).1; rw [E.len] at this; exact this
      rw [hat j hjk, ← hxe]
      exact hj
    obtain ⟨xs, hxl, hxs⟩ := exists_list n hall
    refine ⟨_, _, _, xs, rfl, ⟨hxl, by simp only [maxLen] at hm; omega, fun hn => ⟨a, rfl, ?_, ?_⟩⟩, hl, fun x hx => ?_⟩
    · have h0 := hxs 0 xs[0] (List.getElem?_eq_getElem (by omega))
      have h1 := h0.1 0 ((E.f xs[0])[0]'(by rw [E.len]; exact E.pos)) (List.getElem?_eq_getElem _)
      rw [show a.add (0 * E.k) = a by rw [Nat.zero_mul]; simp [Addr.add], show a.add 0 = a by simp [Addr.add]] at h1
      exact spot_of_cell h1
    · intro j u hj
      have hjl : j < (E.flat xs).length := (List.getElem?_eq_some_iff.1 hj).1
      rw [E.flat_length] at hjl
      have hdm := Nat.div_add_mod j E.k
      have hmod := Nat.mod_lt j E.pos
      have hdiv : j / E.k < xs.length := Nat.div_lt_of_lt_mul (by rw [Nat.mul_comm]; exact hjl)
      rw [← hdm, Nat.mul_comm, E.flat_get _ _ _ hmod, List.getElem?_eq_getElem hdiv] at hj
      have := (hxs _ _ (List.getElem?_eq_getElem hdiv)).1 (j % E.k) u hj
      rw [Go.Deep.add_add] at this
      rw [← hdm, Nat.mul_comm]
      exact this
    · obtain ⟨i, hi', rfl⟩ := List.mem_iff_getElem.1 hx
      exact (hxs i _ (List.getElem?_eq_getElem hi')).2
theorem dec_string {t : TypeId} {n : Nat} {cs : List Value} {x : DataW H × List MemPlace} (ht : P.underlying t = some .string) (h : DataW.trod enc P w base spare held n t cs = some x) : ∃ s : ByteArray, cs = [.string s] ∧ s.size ≤ maxLen := by
  obtain ⟨s, h1, h2, h3⟩ := DataW.trod_string ht h
  exact ⟨s, h1, h3⟩
theorem dec_bool {t : TypeId} {n : Nat} {cs : List Value} {x : DataW H × List MemPlace} (ht : P.underlying t = some .bool) (h : DataW.trod enc P w base spare held n t cs = some x) : ∃ b : Bool, cs = [.bool b] := by
  obtain ⟨b, h1, h2⟩ := DataW.trod_bool ht h
  exact ⟨b, h1⟩
theorem dec_int {t : TypeId} {k : IntKind} {n : Nat} {cs : List Value} {x : DataW H × List MemPlace} (ht : P.underlying t = some (.int k)) (h : DataW.trod enc P w base spare held n t cs = some x) : ∃ z : Int, cs = [.int k z] ∧ (Lit.int k z).wf = true := by
  obtain ⟨z, h1, h2, h3⟩ := DataW.trod_int ht h
  exact ⟨z, h1, h3⟩
/-- The fields of a struct of one-cell fields. -/
theorem dec_fields {t : TypeId} {ts : List TypeId} {n : Nat} {cs : List Value} {x : DataW H × List MemPlace} (ht : P.underlying t = some (.struct (fieldsOf P t))) (hts : (fieldsOf P t).toList.map (·.type) = ts) (hone : oneCellFields P (fieldsOf P t) = true) (hC : P.cellsOf t = ts.length)
    (h : DataW.trod enc P w base spare held n t cs = some x) : cs.length = ts.length ∧ ∃ m : Nat, ∀ (j : Nat) (u : TypeId), ts[j]? = some u → ∃ (v : Value) (y : DataW H × List MemPlace), cs[j]? = some v ∧ DataW.trod enc P w base spare held m u [v] = some y := by
  obtain ⟨xs, m, _, hx, hcl, hlen, hg⟩ := DataW.trod_struct ht h
  rw [hC] at hcl
  refine ⟨hcl, m, fun j u hj => ?_⟩
  have hjl : j < ts.length := (List.getElem?_eq_some_iff.1 hj).1
  rw [← hts, List.getElem?_map, Array.getElem?_toList] at hj
  obtain ⟨f, hf, rfl⟩ := Option.map_eq_some_iff.1 hj
  obtain ⟨o, k⟩ := hone_of hone j f hf
  have h1 := hg j f hf
  rw [o, k] at h1
  have hjx : j < xs.length := by rw [hlen]; exact (Array.getElem?_eq_some_iff.1 hf).1
  have hcs : (cs.drop j).take 1 = [cs[j]'(by omega)] := by
    rw [List.drop_eq_getElem_cons (by omega)]
    rfl
  rw [hcs, List.getElem?_eq_getElem hjx] at h1
  exact ⟨_, _, List.getElem?_eq_getElem (by omega), h1⟩
end
end Go.Proofs.YtcjobbcijbkjkaaGreat.V

/- Ranges over functions: rules. -/
set_option linter.unusedVariables false
set_option linter.unusedSimpArgs false
namespace Go.Proofs.YtcjobbcijbkjkaaGreat.V
open Go

/-- What an iterator does: it yields L, one by one, where R (what it reads) holds at each. -/
def Iter (P : Program) (v : Value) (L : List (List Value)) (R : WP) : Prop :=
  ∃ f cap, v = .func (.func f) #[] cap ∧ enterable P f = true ∧ ∀ (l : Nat) (J : Nat → WP) (w : World), J 0 w → (∀ i w', J i w' → R w') → (∀ i w', J i w' → J i w'.drew) →
    (∀ i w' (h : i < L.length), J i w' → YieldAt P l L[i] w' fun v w'' => v = .bool true ∧ J (i + 1) w'') →
    Calls P f (.func (.yield l) #[] #[] :: cap.toList).toArray w (Ret fun _ w' => J L.length w')
/-- Worlds that differ at the loop's own two blocks alone. -/
def SameBut (a b : Nat) (w w' : World) : Prop := w'.os = w.os ∧ w'.tape = w.tape ∧ w'.output = w.output ∧ w'.heap.size = w.heap.size ∧ ∀ k, k ≠ a → k ≠ b → w'.heap[k]? = w.heap[k]?
theorem sameBut_setO {a b l : Nat} {w : World} {o : Obj} (h : l = a ∨ l = b) : SameBut a b w (setO w l o) :=
  ⟨rfl, rfl, rfl, setO_size, fun k h1 h2 => setO_other (by rcases h with rfl | rfl; exact fun e => h1 e.symm; exact fun e => h2 e.symm)⟩
theorem range_i {P : Program} {v : Value} {T : Type} {vals : T → List Value} {Body : T → WP → (Code → WP) → WP} {done : Nat → Option Code → WP} {w : World} {L : List (List Value)} {R : WP} (I : Nat → WP)
    (hit : Iter P v L R) (hR : ∀ i w', I i w' → R w') (hdr : ∀ i w', I i w' → I i w'.drew)
    (hst : ∀ i w' w'', SameBut w.heap.size (w.heap.size + 1) w' w'' → I i w' → I i w'')
    (h0 : ∀ o, I 0 ((w.alloc (.deferred (some []))).alloc o))
    (hbody : ∀ (i : Nat) (hi : i < L.length) (w' : World) (N : WP) (jump : Code → WP), I i w' → w.heap.size + 2 ≤ w'.heap.size → (∀ w'', I (i + 1) w'' → w'.heap.size ≤ w''.heap.size → (∀ k, k = w.heap.size ∨ k = w.heap.size + 1 → w''.heap[k]? = w'.heap[k]?) → N w'') → ∃ t, vals t = L[i] ∧ Body t N jump w')
    (hdone : ∀ w', I L.length w' → w.heap.size + 2 ≤ w'.heap.size → w'.heap[w.heap.size]? = some (.deferred (some [])) → done w.heap.size none w') :
    rangeW P v T vals (fun t begin next jump => begin (Body t next jump)) done w := by
  obtain ⟨f, cap, rfl, hen, hcalls⟩ := hit
  refine ⟨f, cap, rfl, hen, fun rec hrec hY => ?_⟩
  have hlt : ∀ {w' : World} {o : Obj}, w'.heap[w.heap.size + 1]? = some o → w.heap.size + 1 < w'.heap.size := fun h => (Array.getElem?_eq_some_iff.1 h).1
  refine Calls.mono (hcalls (w.heap.size + 1) (fun i w' => I i w' ∧ w'.heap[w.heap.size + 1]? = some (rec .ready none) ∧ w'.heap[w.heap.size]? = some (.deferred (some []))) _ ⟨h0 _, ?_, ?_⟩ (fun i w' h => hR i w' h.1) (fun i w' h => ⟨hdr i w' h.1, h.2.1, h.2.2⟩) ?_) ?_
  · show ((w.heap.push _).push _)[w.heap.size + 1]? = _
    rw [Array.getElem?_push]
    simp
  · show ((w.heap.push _).push _)[w.heap.size]? = _
    rw [Array.getElem?_push, Array.getElem?_push]
    simp
  · rintro i w' hi ⟨hI, hl, hd⟩
    have hI2 := hst i w' _ (sameBut_setO (o := rec .busy none) (.inr rfl)) hI
    obtain ⟨t, ht, hb⟩ := hbody i hi (setO w' (w.heap.size + 1) (rec .busy none)) (fun w2 => w2.heap[w.heap.size + 1]? = some (rec .busy none) ∧ (fun b w'' => b = true ∧ I (i + 1) w'' ∧ w''.heap[w.heap.size + 1]? = some (rec .ready none) ∧ w''.heap[w.heap.size]? = some (.deferred (some []))) true (setO w2 (w.heap.size + 1) (rec .ready none)))
      (fun c w2 => w2.heap[w.heap.size + 1]? = some (rec .busy none) ∧ (fun b w'' => b = true ∧ I (i + 1) w'' ∧ w''.heap[w.heap.size + 1]? = some (rec .ready none) ∧ w''.heap[w.heap.size]? = some (.deferred (some []))) false (setO w2 (w.heap.size + 1) (rec .done (some c)))) hI2 (by rw [setO_size]; have := hlt hl; omega) (fun w'' hI3 hs hk => by
        have h1 := hk (w.heap.size + 1) (.inr rfl)
        rw [setO_same (hlt hl)] at h1
        have h2 := hk w.heap.size (.inl rfl)
        rw [setO_other (by omega), hd] at h2
        exact ⟨h1, rfl, hst _ _ _ (sameBut_setO (.inr rfl)) hI3, setO_same (hlt h1), by rw [setO_other (by omega)]; exact h2⟩)
    have := hY t w' (fun b w'' => b = true ∧ I (i + 1) w'' ∧ w''.heap[w.heap.size + 1]? = some (rec .ready none) ∧ w''.heap[w.heap.size]? = some (.deferred (some []))) hl ⟨hl, hb⟩
    rw [ht] at this
    obtain ⟨fn, tmps, asg, bd, h1, h2⟩ := this
    refine ⟨fn, tmps, asg, bd, h1, RoundIn.mono h2 ?_⟩
    rintro (v | c | _) w2 he
    · obtain ⟨b, rfl, rfl, hh⟩ := he
      exact ⟨rfl, hh⟩
    · exact he
    · exact he
  · rintro (v | c | _) w3 he
    · obtain ⟨hI, hl, hd⟩ := he
      refine ⟨.ready, none, by simp, hl, hdone _ (hst _ _ _ (sameBut_setO (.inr rfl)) hI) (by rw [setO_size]; have := hlt hl; omega) ?_⟩
      rw [setO_other (by omega)]
      exact hd
    · exact he
    · exact he
end Go.Proofs.YtcjobbcijbkjkaaGreat.V

/- Slices of strings and of whole numbers; bytes of a string; deferred calls, left. -/
set_option linter.unusedVariables false
set_option linter.unusedSimpArgs false
namespace Go.Proofs.YtcjobbcijbkjkaaGreat.V
open Go Go.RowKit

def strE : Enc ByteArray where
  k := 1
  f s := [.string s]
  len _ := rfl
  one _ := by
    intro v hv
    simp only [List.mem_singleton] at hv
    subst hv
    rfl
  pos := by omega
/-- Numbers of a kind, as a slice's elements. -/
def numE (k : IntKind) : Enc Nat where
  k := 1
  f n := [.int k (n : Int)]
  len _ := rfl
  one _ := by
    intro v hv
    simp only [List.mem_singleton] at hv
    subst hv
    rfl
  pos := by omega
theorem idx_str {w : World} {A : Option Addr} {n : Nat} {xs : List ByteArray} {i : Int} {K : ByteArray → WP} (h : Sli strE w A n xs) (h0 : 0 ≤ i) (h1 : i < (n : Int)) (hK : K (xs.getD i.toNat ByteArray.empty) w) :
    (guardW (0 ≤ i ∧ i < ((n : Nat) : Int)) <| ptrW A fun p => ldW .str (p.add (Int.toNat i * 1)) K) w := by
  have hi : i.toNat < xs.length := by have := h.1; omega
  refine idx_el h h0 (x := xs.getD i.toNat ByteArray.empty) (by simp [hi]) rfl ?_
  intro p hp hcell
  exact ld_i (by have := hcell.1; rw [add_zero] at this; exact this) hK
theorem idx_num {w : World} {A : Option Addr} {n : Nat} {k : IntKind} {xs : List Nat} {i : Int} {K : Int → WP} (h : Sli (numE k) w A n xs) (h0 : 0 ≤ i) (h1 : i < (n : Int)) (hK : K ((xs.getD i.toNat 0 : Nat) : Int) w) :
    (guardW (0 ≤ i ∧ i < ((n : Nat) : Int)) <| ptrW A fun p => ldW (.int k) (p.add (Int.toNat i * 1)) K) w := by
  have hi : i.toNat < xs.length := by have := h.1; omega
  refine idx_el h h0 (x := xs.getD i.toNat 0) (by simp [hi]) rfl ?_
  intro p hp hcell
  exact ld_i (by have := hcell.1; rw [add_zero] at this; exact this) hK
section
variable {P : Program} {src dst e : TypeId}
/-- []byte(s) -/
theorem conv_bytes {w : World} {s : ByteArray} {u : TypeDesc} {K : (Option Addr × Nat × Nat) → WP} (hs : P.underlying src = some u) (hd : P.underlying dst = some (.slice e)) (he : P.underlying e = some (.int .u8)) (hm : s.size ≤ 9223372036854775807)
    (hK : ∀ c w', Sl w' (some ⟨w.heap.size, 0, none⟩) s.size (bV (B s)) → Ext w w' → w'.heap.size = w.heap.size + 1 → s.size ≤ c → K (some ⟨w.heap.size, 0, none⟩, s.size, c) w') :
    runW P (convert src dst (.string s)) .slc K w := by
  refine ⟨(some ⟨w.heap.size, 0, none⟩, s.size, _), _, Go.Lib.run_convert_string_bytes w src dst e s hs hd he, hK _ _ ?_ ?_ (Go.Lib.bytesWorld_size w e s) ?_⟩
  · refine ⟨by rw [length_bV, B_size], hm, fun hn => ⟨_, rfl, fun j v hj => ?_⟩⟩
    have hjl : j < s.size := by have := (List.getElem?_eq_some_iff.1 hj).1; rw [length_bV, ← B_size] at this; exact this
    rw [add_mk, Nat.zero_add, Go.Lib.bytesWorld_cell w e s j hjl, ← hj]
    have hjb : j < (B s).length := by rw [← B_size]; exact hjl
    simp only [bV, List.getElem?_map, List.getElem?_eq_getElem hjb, Option.map_some]
    congr 3
    rw [List.getD_eq_getElem?_getD, show s.data.toList = B s from rfl, List.getElem?_eq_getElem hjb]
    rfl
  · exact ⟨rfl, rfl, rfl, by rw [Go.Lib.bytesWorld_size]; omega, fun k hk => Go.Lib.bytesWorld_at_old w e s k hk⟩
  · exact grownCap_ge _ _ _ _
end
/-! ### What was deferred -/
theorem leave_i {P : Program} {r : Nat} {ds : List Deferred} {K : WP} {w : World} (h : w.heap[r]? = some (.deferred (some []))) (hK : leaveW P ds K (setO w r (.deferred none))) : leaveW P (⟨.collected r, #[]⟩ :: ds) K w :=
  .inl ⟨r, _, rfl, run_takeDeferred h, hK⟩
/-- The blocks of what was deferred, from B on: each bears none. -/
def Dfs (B : Nat) (w : World) : List Deferred → Prop
  | [] => True
  | d :: ds => ∃ r, d = ⟨.collected r, #[]⟩ ∧ B ≤ r ∧ w.heap[r]? = some (.deferred (some [])) ∧ (∀ d' ∈ ds, d'.target ≠ .collected r) ∧ Dfs B w ds
/-- Worlds that differ at deferred blocks alone, from B on. -/
def SameDf (B : Nat) (w w' : World) : Prop := w'.os = w.os ∧ w'.tape = w.tape ∧ w'.output = w.output ∧ w'.heap.size = w.heap.size ∧ ∀ k : Nat, k < B ∨ w.heap[k]? ≠ some (Obj.deferred (some [])) → w'.heap[k]? = w.heap[k]?
def KeepD (w w' : World) : Prop := ∀ j : Nat, w.heap[j]? = some (Obj.deferred (some [])) → w'.heap[j]? = some (Obj.deferred (some []))
theorem Dfs.kept {B : Nat} {w w' : World} : ∀ {ds : List Deferred}, Dfs B w ds → (∀ k, w.heap[k]? = some (.deferred (some [])) → (∃ d ∈ ds, d.target = .collected k) → w'.heap[k]? = some (.deferred (some []))) → Dfs B w' ds
  | [], _, _ => trivial
  | d :: ds, ⟨r, h1, hB, h2, h3, h4⟩, hk => ⟨r, h1, hB, hk r h2 ⟨d, List.mem_cons_self, by rw [h1]⟩, h3, Dfs.kept h4 fun k h5 ⟨d', h6, h7⟩ => hk k h5 ⟨d', List.mem_cons_of_mem _ h6, h7⟩⟩
theorem Dfs.lt {B : Nat} {w : World} : ∀ {ds : List Deferred}, Dfs B w ds → ∀ d ∈ ds, ∀ r, d.target = .collected r → r < w.heap.size
  | [], _, d, hd, _, _ => by cases hd
  | d0 :: ds, ⟨r0, h1, _, h2, _, h4⟩, d, hd, r, hr => by
    rcases List.mem_cons.1 hd with rfl | hd
    · subst h1
      injection hr with hr
      subst hr
      exact (Array.getElem?_eq_some_iff.1 h2).1
    · exact Dfs.lt h4 d hd r hr
theorem leave_all {P : Program} {K : WP} {B : Nat} : ∀ (ds : List Deferred) (w : World), Dfs B w ds → (∀ w', SameDf B w w' → K w') → leaveW P ds K w
  | [], w, _, hK => hK w ⟨rfl, rfl, rfl, rfl, fun _ _ => rfl⟩
  | d :: ds, w, ⟨r, h1, hB, h2, h3, h4⟩, hK => by
    subst h1
    refine leave_i h2 (leave_all (B := B) ds _ (Dfs.kept h4 fun k h5 ⟨d', h6, h7⟩ => ?_) fun w' hs => hK w' ?_)
    · rw [setO_other (fun e => h3 d' h6 (by rw [h7, e]))]
      exact h5
    · refine ⟨hs.1, hs.2.1, hs.2.2.1, by rw [hs.2.2.2.1, setO_size], fun k hk => ?_⟩
      have hkr : r ≠ k := fun e => by
        subst e
        rcases hk with hk | hk
        · omega
        · exact hk h2
      rw [hs.2.2.2.2 k (by rw [setO_other hkr]; exact hk), setO_other hkr]
theorem Blk.sameDf {B : Nat} {w w' : World} {b : Nat} {cs : List Value} {t : TypeId} (h : Blk w b cs t) (hs : SameDf B w w') : Blk w' b cs t :=
  (hs.2.2.2.2 b (.inr (by rw [show w.heap[b]? = _ from h]; simp))).trans h
theorem Ext.sameDf {w0 w w' : World} (h : Ext w0 w) (hs : SameDf w0.heap.size w w') : Ext w0 w' :=
  ⟨hs.1.trans h.os, hs.2.1.trans h.tape, hs.2.2.1.trans h.output, by have := h.size; have := hs.2.2.2.1; omega, fun k hk => (hs.2.2.2.2 k (.inl hk)).trans (h.block k hk)⟩
end Go.Proofs.YtcjobbcijbkjkaaGreat.V

/- Rules that a walk uses often. -/
set_option linter.unusedVariables false
set_option linter.unusedSimpArgs false
namespace Go.Proofs.YtcjobbcijbkjkaaGreat.V
open Go Go.RowKit
variable {α : Type}

/-- A new block. -/
theorem new_i {w : World} {cs : Array Value} {t : TypeId} {K : Nat → WP} (h : ∀ r w', Blk w' r cs.toList t → Ext w w' → w.heap.size = r → w'.heap.size = r + 1 → K r w') : newW (.cells cs t) K w :=
  h w.heap.size _ (Blk.new w cs t) ((Ext.refl w).alloc _) rfl (by simp)
theorem draw_i {w : World} {K : WP} (h : ∀ w', Ext w w' → w'.heap.size = w.heap.size → (∀ k : Nat, w'.heap[k]? = w.heap[k]?) → K w') : drewW K w := h w.drew (Ext.refl w).drew rfl (fun _ => rfl)
/-- An element of a slice, whole. -/
theorem idx_A {E : Enc α} {ls : List Lf} {w : World} {A : Option Addr} {n k : Nat} {xs : List α} {i : Int} {K : LT ls → WP} (y : α → LT ls) (d : α) (h : Sli E w A n xs) (hy : ∀ x, LT.vals ls (y x) = E.f x) (hk : E.k = k) (h0 : 0 ≤ i) (h1 : i < (n : Int)) (hK : K (y (xs.getD i.toNat d)) w) :
    (guardW (0 ≤ i ∧ i < ((n : Nat) : Int)) <| ptrW A fun p => ldAW ls (p.add (Int.toNat i * k)) K) w := by
  have hi : i.toNat < xs.length := by have := h.1; omega
  refine idx_el h h0 (x := xs.getD i.toNat d) (by simp [hi]) hk ?_
  intro p hp hcell
  exact ldA_i (by rw [hy]; exact hcell) hK
theorem cellsAt_get {w : World} {a : Addr} (ha : a.spot = none) : ∀ {vs : List Value} {i o : Nat} {v : Value}, CellsAt w a i vs → vs[o]? = some v → w.cell? (a.add (i + o)) = some v
  | [], _, o, _, _, h => by simp at h
  | u :: r, i, 0, v, hc, h => by
    simp only [List.getElem?_cons_zero, Option.some.injEq] at h
    subst h
    exact hc.1
  | u :: r, i, o + 1, v, hc, h => by
    have := cellsAt_get ha (i := i + 1) hc.2 (by simpa using h)
    rw [show i + (o + 1) = i + 1 + o by omega]
    exact this
/-- A field of an element of a slice. -/
theorem idx_f {E : Enc α} {l : Lf} {w : World} {A : Option Addr} {n k : Nat} {xs : List α} {i : Int} {K : l.T → WP} (o : Nat) (y : α → l.T) (d : α) (h : Sli E w A n xs) (hy : ∀ x, (E.f x)[o]? = some (l.val (y x))) (hk : E.k = k) (h0 : 0 ≤ i) (h1 : i < (n : Int)) (hK : K (y (xs.getD i.toNat d)) w) :
    (guardW (0 ≤ i ∧ i < ((n : Nat) : Int)) <| ptrW A fun p => ldW l ((p.add (Int.toNat i * k)).add o) K) w := by
  have hi : i.toNat < xs.length := by have := h.1; omega
  refine idx_el h h0 (x := xs.getD i.toNat d) (by simp [hi]) hk ?_
  intro p hp hcell
  have hsp : (p.add (Int.toNat i * k)).spot = none := by
    obtain ⟨b, o, s⟩ := p
    simp only at hp
    subst hp
    rw [add_mk]
  have := cellsAt_get hsp hcell (hy _)
  rw [Nat.zero_add] at this
  exact ld_i this hK
theorem idx_f0 {E : Enc α} {l : Lf} {w : World} {A : Option Addr} {n k : Nat} {xs : List α} {i : Int} {K : l.T → WP} (y : α → l.T) (d : α) (h : Sli E w A n xs) (hy : ∀ x, (E.f x)[0]? = some (l.val (y x))) (hk : E.k = k) (h0 : 0 ≤ i) (h1 : i < (n : Int)) (hK : K (y (xs.getD i.toNat d)) w) :
    (guardW (0 ≤ i ∧ i < ((n : Nat) : Int)) <| ptrW A fun p => ldW l (p.add (Int.toNat i * k)) K) w := by
  have := idx_f (K := K) 0 y d h hy hk h0 h1 hK
  obtain ⟨g, a, e, x, hx, hk2⟩ := this
  refine ⟨g, a, e, x, ?_, hk2⟩
  rw [add_zero] at hx
  exact hx
/-- Whole numbers with a sign, as a slice's elements. -/
def intE : Enc Int where
  k := 1
  f n := [.int .i64 n]
  len _ := rfl
  one _ := by
    intro v hv
    simp only [List.mem_singleton] at hv
    subst hv
    rfl
  pos := by omega
theorem idx_int {w : World} {A : Option Addr} {n : Nat} {xs : List Int} {i : Int} {K : Int → WP} (h : Sli intE w A n xs) (h0 : 0 ≤ i) (h1 : i < (n : Int)) (hK : K (xs.getD i.toNat 0) w) :
    (guardW (0 ≤ i ∧ i < ((n : Nat) : Int)) <| ptrW A fun p => ldW (.int .i64) (p.add (Int.toNat i * 1)) K) w :=
  idx_f0 (l := .int .i64) (fun x => x) 0 h (fun _ => rfl) rfl h0 h1 hK
/-- A box, read whole, or a field of it. -/
theorem boxA {ls : List Lf} {w : World} {b : Nat} {cs : List Value} {t : TypeId} {K : LT ls → WP} (x : LT ls) (h : Blk w b cs t) (hx : LT.vals ls x = cs) (hK : K x w) : ldAW ls ⟨b, 0, none⟩ K w := ⟨x, by rw [hx]; exact h.cellsAt, hK⟩
theorem boxF {l : Lf} {w : World} {b : Nat} {cs : List Value} {t : TypeId} {K : l.T → WP} (o : Nat) (x : l.T) (h : Blk w b cs t) (hx : cs[o]? = some (l.val x)) (hK : K x w) : ldW l ((⟨b, 0, none⟩ : Addr).add o) K w := ld_blk h hx hK
theorem box0 {l : Lf} {w : World} {b : Nat} {cs : List Value} {t : TypeId} {K : l.T → WP} (x : l.T) (h : Blk w b cs t) (hx : cs[0]? = some (l.val x)) (hK : K x w) : ldW l ⟨b, 0, none⟩ K w := ldW_blk h hx hK
/-- A box that is filled anew. -/
theorem refill {w : World} {b n : Nat} {cs vs : List Value} {t : TypeId} {us : Array Value} {K : WP} (h : Blk w b cs t) (hl : vs.length = cs.length) (hv : ∀ v ∈ vs, v.oneCell' = true) (hu : us.size = n)
    (hK : ∀ w', Blk w' b vs t → (∀ w0, Ext w0 w → w0.heap.size ≤ b → Ext w0 w') → (∀ k : Nat, k ≠ b → w'.heap[k]? = w.heap[k]?) → w'.heap.size = w.heap.size → K w') :
    (guardW (us.size = n) <| stAW (⟨b, 0, none⟩ : Addr) vs K) w := by
  refine ⟨hu, h.storable_from vs 0 (by omega) hv, hK _ (h.setCells vs hl) (fun w0 he hb => he.setCells hb vs 0) ?_ ?_⟩
  · intro k hk
    have : ∀ (vs : List Value) (i : Nat) (w : World), (setCells w ⟨b, 0, none⟩ i vs).heap[k]? = w.heap[k]? := by
      intro vs
      induction vs with
      | nil => intro i w; rfl
      | cons v r ih =>
        intro i w
        simp only [setCells]
        rw [ih, Below.heap_setCell _ _ _ _ (by rw [add_mk]; simp only; omega)]
    exact this vs 0 w
  · have : ∀ (vs : List Value) (i : Nat) (w : World), (setCells w ⟨b, 0, none⟩ i vs).heap.size = w.heap.size := by
      intro vs
      induction vs with
      | nil => intro i w; rfl
      | cons v r ih => intro i w; simp only [setCells]; rw [ih]; simp
    exact this vs 0 w
end Go.Proofs.YtcjobbcijbkjkaaGreat.V

/- Texts and numbers that came in, in slices, opened. -/
set_option linter.unusedVariables false
set_option linter.unusedSimpArgs false
namespace Go.Proofs.YtcjobbcijbkjkaaGreat.V
open Go Go.ChangeShapes Go.WideShapes Go.ChangeAt Go.RowKit Go.Deep Go.Proofs
section
variable {H : Type} {enc : TypeId × Value → H} {P : Program} {w : World} {base : Nat} {spare : Nat → Bool} {held : Bool}
theorem dec_strE {t : TypeId} {n : Nat} {cs : List Value} {x : DataW H × List MemPlace} (ht : P.underlying t = some .string) (h : DataW.trod enc P w base spare held n t cs = some x) : ∃ s : ByteArray, strE.f s = cs ∧ s.size ≤ 9223372036854775807 := by
  obtain ⟨s, h1, h2⟩ := dec_string ht h
  exact ⟨s, h1.symm, by simpa [maxLen] using h2⟩
theorem dec_u32E {t : TypeId} {n : Nat} {cs : List Value} {x : DataW H × List MemPlace} (ht : P.underlying t = some (.int .u32)) (h : DataW.trod enc P w base spare held n t cs = some x) : ∃ z : Nat, (numE .u32).f z = cs ∧ z < 4294967296 := by
  obtain ⟨z, h1, h2⟩ := dec_int ht h
  have := nat_u32 h2
  refine ⟨z.toNat, ?_, by omega⟩
  rw [h1]
  show [Value.int .u32 ((z.toNat : Nat) : Int)] = _
  rw [show ((z.toNat : Nat) : Int) = z by omega]
theorem dec_intE {t : TypeId} {n : Nat} {cs : List Value} {x : DataW H × List MemPlace} (ht : P.underlying t = some (.int .i64)) (h : DataW.trod enc P w base spare held n t cs = some x) : ∃ z : Int, intE.f z = cs ∧ (-9223372036854775808 ≤ z ∧ z < 9223372036854775808) := by
  obtain ⟨z, h1, h2⟩ := dec_int ht h
  exact ⟨z, h1.symm, nat_i64 h2⟩
end
end Go.Proofs.YtcjobbcijbkjkaaGreat.V

/- Geometries and words that came in, opened. -/
set_option linter.unusedVariables false
set_option linter.unusedSimpArgs false
set_option maxRecDepth 100000
namespace Go.Proofs.YtcjobbcijbkjkaaGreat.V
open Go Go.ChangeShapes Go.WideShapes Go.ChangeAt Go.RowKit Go.Deep Go.Proofs
theorem n_u64 {z : Int} (h : (Lit.int .u64 z).wf = true) : ∃ k : Nat, z = (k : Int) ∧ k < 18446744073709551616 := by
  have := nat_u64 h
  exact ⟨z.toNat, by omega, by omega⟩
section
variable {H : Type} {enc : TypeId × Value → H} {w : World} {base : Nat} {spare : Nat → Bool} {held : Bool}
theorem open_geo {v : Value} {d : DataW H} {ps : List MemPlace} {r : Reach} {b0 : Nat} (hv : Value.okWide Tryz.prog w r b0 28 v) (h : DataW.Trod enc Tryz.prog w base spare held 28 v d ps) :
    ∃ s b : Int, v = .agg #[.int .i64 s, .int .i64 b] ∧ (-9223372036854775808 ≤ s ∧ s < 9223372036854775808) ∧ (-9223372036854775808 ≤ b ∧ b < 9223372036854775808) := by
  obtain ⟨cs, rfl, hsz⟩ := okWide_struct (show Tryz.prog.underlying 28 = some (.struct (fieldsOf Tryz.prog 28)) by kernel_rfl) hv
  obtain ⟨fuel, hf⟩ := h
  have hf' : DataW.trod enc Tryz.prog w base spare held fuel 28 cs.toList = some (d, ps) := hf
  obtain ⟨hl, m, hf2⟩ := dec_fields (ts := [3, 3]) (by kernel_rfl) (by kernel_rfl) (by kernel_rfl) (by kernel_rfl) hf'
  obtain ⟨v0, y0, e0, h0⟩ := hf2 0 _ rfl
  obtain ⟨v1, y1, e1, h1⟩ := hf2 1 _ rfl
  obtain ⟨z0, hz0, hw0⟩ := dec_int (k := .i64) (by kernel_rfl) h0
  obtain ⟨z1, hz1, hw1⟩ := dec_int (k := .i64) (by kernel_rfl) h1
  cases hz0; cases hz1
  refine ⟨z0, z1, ?_, nat_i64 hw0, nat_i64 hw1⟩
  congr 1
  apply Array.toList_inj.1
  match hcs : cs.toList, hl with
  | [a, b], _ =>
    rw [hcs] at e0 e1
    simp only [List.getElem?_cons_zero, List.getElem?_cons_succ, Option.some.injEq] at e0 e1
    rw [e0, e1]
end
end Go.Proofs.YtcjobbcijbkjkaaGreat.V

/- Maps from ints to empty structs: sets of ints. -/
set_option linter.unusedVariables false
set_option linter.unusedSimpArgs false
namespace Go.Proofs.YtcjobbcijbkjkaaGreat.V
open Go Go.Proofs Go.RowKit Go.MapKept

/-- A set of ints. -/
def SetAt (w : World) (r : Nat) (ks : List Int) : Prop := ∃ (es : Array MapEntry) (clock : Nat), w.heap[r]? = some (.map es clock) ∧ es.toList.map (·.key) = ks.map (fun k => Value.int .i64 k) ∧ ∀ e ∈ es.toList, e.val = .agg #[]
theorem SetAt.ext {w w' : World} {r : Nat} {ks : List Int} (h : SetAt w r ks) (he : Ext w w') : SetAt w' r ks := by
  obtain ⟨es, c, hb, h1, h2⟩ := h
  exact ⟨es, c, he.heap hb, h1, h2⟩
theorem SetAt.grown {w w' : World} {r : Nat} {ks : List Int} {row : Option Nat} (h : SetAt w r ks) (hg : w.grownBy w' row) (hr : some r ≠ row) : SetAt w' r ks := by
  obtain ⟨es, c, hb, h1, h2⟩ := h
  exact ⟨es, c, (hg.block r (Array.getElem?_eq_some_iff.1 hb).1 hr).trans hb, h1, h2⟩
theorem SetAt.lt {w : World} {r : Nat} {ks : List Int} (h : SetAt w r ks) : r < w.heap.size := by
  obtain ⟨es, c, hb, h1, h2⟩ := h
  exact (Array.getElem?_eq_some_iff.1 hb).1
section
variable {P : Program} {t kt et : TypeId}
theorem makeMap_i {w : World} {K : Value → WP} (hK : ∀ w', SetAt w' w.heap.size [] → Ext w w' → w'.heap.size = w.heap.size + 1 → K (.map (some w.heap.size)) w') : runW P (Instr.makeMap t none) .any K w := by
  refine ⟨.map (some w.heap.size), w.alloc (.map #[] 0), ?_, hK _ ⟨#[], 0, (heap_alloc w _).1, rfl, by simp⟩ ((Ext.refl w).alloc _) (by show (w.heap.push _).size = _; simp)⟩
  simp [Instr.makeMap, Result.andThen, Lf.val]
theorem keys_of {es : Array MapEntry} {ks : List Int} (h : es.toList.map (·.key) = ks.map (fun k => Value.int .i64 k)) : ∀ x ∈ es.toList, IsKey (.int .i64) x.key := by
  intro x hx
  have : x.key ∈ es.toList.map (·.key) := List.mem_map.2 ⟨x, hx, rfl⟩
  rw [h] at this
  obtain ⟨k, _, e⟩ := List.mem_map.1 this
  rw [← e]
  simp [IsKey]
theorem lookup_i {w : World} {r : Nat} {ks : List Int} {k : Int} {K : Unit × Bool × Unit → WP} (hm : P.underlying t = some (.map kt et)) (hk : P.underlying kt = some (.int .i64)) (hz : (zeroValue et).run P w = .ok (.agg #[]) w)
    (h : SetAt w r ks) (hK : K ((), decide (k ∈ ks), ()) w) : runRW P (Instr.lookup t (.map (some r)) (.int .i64 k) true) (.many [(.agg []), (.one .bool)]) K w := by
  obtain ⟨es, c, hb, h1, h2⟩ := h
  have hik : IsKey (.int .i64) (.int .i64 k) := by simp [IsKey]
  refine ⟨((), decide (k ∈ ks), ()), w, ?_, hK⟩
  have hck := run_checkKey (w := w) hk hik es.isEmpty 9999
  rcases findNow_spec hik es.toList 0 (keys_of h1) with ⟨hn, hno⟩ | ⟨j, e, hn, hj, he⟩
  · have hf := run_findKey (w := w) hk hn
    have hnot : k ∉ ks := by
      intro hmem
      have : Value.int .i64 k ∈ es.toList.map (·.key) := by rw [h1]; exact List.mem_map.2 ⟨k, hmem, rfl⟩
      obtain ⟨x, hx, e⟩ := List.mem_map.1 this
      exact hno x hx e
    rw [decide_eq_false hnot]
    simp only [Instr.lookup, Sem.run_bind, run_underlying hm, Result.andThen, Go.MapKept.run_getObj_map hb]
    simp [hck, hf, hz, Result.andThen]
    rfl
  · have hf := run_findKey (w := w) hk hn
    have hmem : k ∈ ks := by
      have : e.key ∈ es.toList.map (·.key) := List.mem_map.2 ⟨e, List.mem_of_getElem? hj, rfl⟩
      rw [h1, he] at this
      obtain ⟨k', hk', e'⟩ := List.mem_map.1 this
      injection e' with _ e'
      rw [← e']; exact hk'
    rw [decide_eq_true hmem]
    have hv := h2 e (List.mem_of_getElem? hj)
    simp only [Instr.lookup, Sem.run_bind, run_underlying hm, Result.andThen, Go.MapKept.run_getObj_map hb]
    simp [hck, hf, hv, Result.andThen]
    rfl
theorem mapUpdate_i {w : World} {r : Nat} {ks : List Int} {k : Int} {K : WP} (hm : P.underlying t = some (.map kt et)) (hk : P.underlying kt = some (.int .i64)) (h : SetAt w r ks) (hno : k ∉ ks)
    (hK : ∀ w', SetAt w' r (ks ++ [k]) → w.grownBy w' (some r) → K w') : runUW P (Instr.mapUpdate t (.map (some r)) (.int .i64 k) (.agg #[])) K w := by
  obtain ⟨es, c, hb, h1, h2⟩ := h
  have hik : IsKey (.int .i64) (.int .i64 k) := by simp [IsKey]
  have hck := run_checkKey (w := w) hk hik false 9999
  rcases findNow_spec hik es.toList 0 (keys_of h1) with ⟨hn, hno'⟩ | ⟨j, e, hn, hj, he⟩
  · have hf := run_findKey (w := w) hk hn
    have hset := run_setObj_map (P := P) (.map (es.push { key := .int .i64 k, val := .agg #[], born := c }) (c + 1)) hb
    refine ⟨{ w with heap := w.heap.setIfInBounds r (.map (es.push { key := .int .i64 k, val := .agg #[], born := c }) (c + 1)) }, ?_, hK _ ⟨_, _, (heap_set hb).1, ?_, ?_⟩ ⟨rfl, rfl, rfl, by simp, fun j _ hne => (heap_set hb).2 j (fun e => hne (by rw [e]))⟩⟩
    · simp only [Instr.mapUpdate, Sem.run_bind, run_underlying hm, Result.andThen, Go.MapKept.run_getObj_map hb]
      simp [hck, hf, hset, Result.andThen]
    · simp [h1]
    · intro e he
      simp only [Array.toList_push, List.mem_append, List.mem_singleton] at he
      rcases he with he | rfl
      · exact h2 e he
      · rfl
  · exfalso
    have : e.key ∈ es.toList.map (·.key) := List.mem_map.2 ⟨e, List.mem_of_getElem? hj, rfl⟩
    rw [h1, he] at this
    obtain ⟨k', hk', e'⟩ := List.mem_map.1 this
    injection e' with _ e'
    exact hno (by rw [← e']; exact hk')
end
end Go.Proofs.YtcjobbcijbkjkaaGreat.V

/- Writing in place: appends within a row's room, copies. -/
set_option linter.unusedVariables false
set_option linter.unusedSimpArgs false
namespace Go.Proofs.YtcjobbcijbkjkaaGreat.V
open Go Go.RowKit

theorem setCells_shift (b o : Nat) : ∀ (vs : List Value) (i : Nat) (w : World), setCells w ⟨b, o, none⟩ i vs = setCells w ⟨b, 0, none⟩ (o + i) vs
  | [], _, _ => rfl
  | v :: r, i, w => by
    simp only [setCells, add_mk, Nat.zero_add]
    rw [setCells_shift b o r (i + 1)]
    rfl
theorem storable_shift (b o : Nat) : ∀ (vs : List Value) (i : Nat) (w : World), Storable w ⟨b, 0, none⟩ (o + i) vs → Storable w ⟨b, o, none⟩ i vs
  | [], _, _, _ => trivial
  | v :: r, i, w, h => by
    simp only [Storable, add_mk, Nat.zero_add] at h ⊢
    exact ⟨h.1, h.2.1, h.2.2.1, storable_shift b o r (i + 1) w h.2.2.2⟩
theorem setCells_other (b : Nat) : ∀ (vs : List Value) (i o : Nat) (w : World) (k : Nat), k ≠ b → (setCells w ⟨b, o, none⟩ i vs).heap[k]? = w.heap[k]?
  | [], _, _, _, _, _ => rfl
  | v :: r, i, o, w, k, h => by
    simp only [setCells]
    rw [setCells_other b r (i + 1) o _ k h, Below.heap_setCell _ _ _ _ (by rw [add_mk]; exact h)]
theorem setCells_size (b : Nat) : ∀ (vs : List Value) (i o : Nat) (w : World), (setCells w ⟨b, o, none⟩ i vs).heap.size = w.heap.size
  | [], _, _, _ => rfl
  | v :: r, i, o, w => by
    simp only [setCells]
    rw [setCells_size b r (i + 1) o _]
    simp
theorem setCells_meta (b : Nat) : ∀ (vs : List Value) (i o : Nat) (w : World), (setCells w ⟨b, o, none⟩ i vs).os = w.os ∧ (setCells w ⟨b, o, none⟩ i vs).tape = w.tape ∧ (setCells w ⟨b, o, none⟩ i vs).output = w.output
  | [], _, _, _ => ⟨rfl, rfl, rfl⟩
  | v :: r, i, o, w => setCells_meta b r (i + 1) o _
/-- Cells in a row of one's block are set. -/
theorem blk_put {w : World} {b o : Nat} {cs vs : List Value} {t : TypeId} (h : Blk w b cs t) (hl : o + vs.length ≤ cs.length) (hv : ∀ v ∈ vs, v.oneCell' = true) :
    Storable w ⟨b, o, none⟩ 0 vs ∧ Blk (setCells w ⟨b, o, none⟩ 0 vs) b (cs.take o ++ vs ++ cs.drop (o + vs.length)) t ∧ w.grownBy (setCells w ⟨b, o, none⟩ 0 vs) (some b) := by
  refine ⟨storable_shift b o vs 0 w (h.storable_from vs o hl hv), ?_, ?_⟩
  · rw [setCells_shift]
    exact Blk.setCells_from vs o w cs h hl
  · obtain ⟨m1, m2, m3⟩ := setCells_meta b vs 0 o w
    exact ⟨m1, m2, m3, by rw [setCells_size]; exact Nat.le_refl _, fun k hk hne => setCells_other b vs 0 o w k (fun e => hne (by rw [e]))⟩
section
variable {P : Program} {t e : TypeId} {z : Value} {bytes : Nat}
/-- append(s, x...), where there is room. -/
theorem append_fit {w : World} {b o n c m d : Nat} {ty t2 : TypeId} {X : Option Addr} {cs ys : List Value} {K : (Option Addr × Nat × Nat) → WP} (hE : Elem P t e z bytes) (hb : Blk w b cs t2) (ho : o + c ≤ cs.length) (hn : n + m ≤ c)
    (hx : Sl w X m ys) (hys : ∀ y ∈ ys, y.oneCell' = true)
    (hK : ∀ w', Blk w' b (cs.take (o + n) ++ ys ++ cs.drop (o + n + m)) t2 → w.grownBy w' (some b) → K (some ⟨b, o, none⟩, n + m, c) w') :
    runW P (Builtin.append_ #[t, t] ty #[.slice (some ⟨b, o, none⟩) n c, .slice X m d]) .slc K w := by
  obtain ⟨ht, hi, hz⟩ := hE
  obtain ⟨i, hi, hii⟩ := Option.map_eq_some_iff.1 hi
  simp only [Prod.mk.injEq] at hii
  obtain ⟨hz0, hz1, hz2⟩ := hii
  have hl := hx.len
  obtain ⟨hst, hbl, hg⟩ := blk_put hb (o := o + n) (vs := ys) (by omega) hys
  rw [hl] at hbl
  cases X with
  | none =>
    obtain rfl : m = 0 := by
      rcases Nat.eq_zero_or_pos m with h | h
      · exact h
      · obtain ⟨a, h1, _⟩ := hx.2.2 h; cases h1
    obtain rfl : ys = [] := List.eq_nil_of_length_eq_zero hl
    refine ⟨(some ⟨b, o, none⟩, n, c), w, ?_, hK w (by simpa using hb) (grownBy_refl _ _)⟩
    simp [Builtin.append_, run_underlying ht, sizeOf, typeInfo, hi, Builtin.lenOf, Builtin.firstCells, show n ≤ c by omega, storeCells]
    rfl
  | some a =>
    have hcells : ∀ j u, ys[j]? = some u → w.cell? (a.add j) = some u := (fun j u hj => by
        rcases Nat.eq_zero_or_pos m with h | h
        · have : j < ys.length := (List.getElem?_eq_some_iff.1 hj).1
          omega
        · obtain ⟨a', h1, h2⟩ := hx.2.2 h
          cases h1
          exact h2 j u hj)
    have hload := run_loadCells_list (P := P) w a ys hcells
    have hstore := run_storeCells (P := P) hst
    refine ⟨(some ⟨b, o, none⟩, n + m, c), _, ?_, hK _ hbl hg⟩
    rw [hl] at hload
    simp [Builtin.append_, run_underlying ht, sizeOf, typeInfo, hi, hz1, Builtin.lenOf, Builtin.firstCells, hn, hload, add_mk, hstore]
    rfl
theorem append_newfit {w : World} {b o n c : Nat} {ty t2 : TypeId} {cs ys : List Value} {K : (Option Addr × Nat × Nat) → WP} (hE : Elem P t e z bytes) (hb : Blk w b cs t2) (ho : o + c ≤ cs.length) (hn : n + ys.length ≤ c) (hc : c ≤ 9223372036854775807)
    (hys : ∀ y ∈ ys, y.oneCell' = true)
    (hK : ∀ w', Blk w' b (cs.take (o + n) ++ ys ++ cs.drop (o + n + ys.length)) t2 → w.grownBy w' (some b) → K (some ⟨b, o, none⟩, n + ys.length, c) w') :
    (newW (.cells ys.toArray e) fun r => runW P (Builtin.append_ #[t, t] ty #[.slice (some ⟨b, o, none⟩) n c, .slice (some (⟨r, 0, none⟩ : Addr)) ys.length ys.length]) .slc K) w := by
  refine new_i fun r w1 hr he _ _ => ?_
  refine append_fit hE (hb.ext he) ho hn (Sl.of_blk hr rfl (by omega)) hys fun w' hb' hg => hK w' hb' ?_
  exact grownBy_tr (grownBy_of_ext he _) hg (fun j hj => .inl hj)
/-- copy(s, text) -/
theorem copy_str {w : World} {b o n c : Nat} {ty u t2 : TypeId} {cs : List Value} {s : ByteArray} {K : Int → WP} (hE : Elem P t e z bytes) (hb : Blk w b cs t2) (ho : o + n ≤ cs.length)
    (hK : ∀ w', Blk w' b (cs.take o ++ bV ((B s).take n) ++ cs.drop (o + min (B s).length n)) t2 → w.grownBy w' (some b) → K ((min (B s).length n : Nat) : Int) w') :
    runW P (Builtin.copy_ #[t, u] ty #[.slice (some ⟨b, o, none⟩) n c, .string s]) (.int .i64) K w := by
  obtain ⟨ht, hi, hz⟩ := hE
  obtain ⟨i, hi, hii⟩ := Option.map_eq_some_iff.1 hi
  simp only [Prod.mk.injEq] at hii
  obtain ⟨hz0, hz1, hz2⟩ := hii
  have hsz := B_size s
  have hlen : (bV ((B s).take n)).length = min (B s).length n := by rw [length_bV, List.length_take, Nat.min_comm]
  obtain ⟨hst, hbl, hg⟩ := blk_put hb (o := o) (vs := bV ((B s).take n)) (by rw [hlen]; omega) (bV_one _)
  rw [hlen] at hbl
  have hstore := run_storeCells (P := P) hst
  have e1 : List.take (if s.size ≤ n then s.size else n) (List.map (fun b => Value.int IntKind.u8 (b.toNat : Int)) s.data.toList) = bV ((B s).take n) := by
    rw [← Nat.min_def, hsz]
    show List.take _ (bV (B s)) = _
    rw [bV_take]
    congr 1
    rcases Nat.le_total (B s).length n with h | h
    · rw [Nat.min_eq_left h, List.take_length, List.take_of_length_le h]
    · rw [Nat.min_eq_right h]
  refine ⟨((min (B s).length n : Nat) : Int), _, ?_, hK _ hbl hg⟩
  rw [← hsz]
  simp [Builtin.copy_, run_underlying ht, sizeOf, typeInfo, hi, Builtin.lenOf, Builtin.firstCells, hstore, goInt, Nat.min_def, Lf.val]
  rw [e1, hstore]
  rfl
end
theorem toList_zeros (k : Nat) : (Builtin.zeroCells (Value.int .u8 0).cells k).toList = bV (List.replicate k 0) := by
  apply List.ext_getElem
  · simp [Builtin.zeroCells, bV, Value.cells]
  · intro i h1 h2
    have hi : i < k := by simpa [Builtin.zeroCells, Value.cells] using h1
    simp [Builtin.zeroCells, bV, Value.cells, Nat.mod_one]
/-- append(s, make([]byte, k)...), of a slice of one's own that is not nil -/
theorem append_zeros {P : Program} {t tn e : TypeId} {kn : IntKind} {w : World} {B0 : Nat} {ty : TypeId} {A : Option Addr} {n c k : Nat} {bs : List UInt8} {K : (Option Addr × Nat × Nat) → WP} (hE : Elem P t e (.int .u8 0) 1) (hu : P.underlying tn = some (.int kn)) (ho : Own e w B0 A n c (bV bs)) (hB : B0 ≤ w.heap.size) (hn : 0 < n)
    (hlen : n + k ≤ 140737488355328)
    (hK : ∀ A' c' w', Own e w' B0 A' (n + k) c' (bV (bs ++ List.replicate k 0)) → Grew w w' (orow A) (orow A') → K (A', n + k, c') w') :
    runW P (Builtin.append_ #[t, tn] ty #[.slice A n c, .int .i64 (k : Int)]) .slc K w := by
  obtain ⟨ht, hi, hz⟩ := hE
  obtain ⟨i, hi, hii⟩ := Option.map_eq_some_iff.1 hi
  simp only [Prod.mk.injEq] at hii
  obtain ⟨hz0, hz1, hz2⟩ := hii
  have hxl : (bV bs).length = n := by simpa using ho.1
  rcases ho.2 with ⟨h1, h2⟩ | ⟨g, cap, cur, hv, hbg, hg, hnc, hcm, hcs, htake⟩
  · omega
  · injection hv with hv1 hv2 hv3
    subst hv1
    subst hv3
    simp only [maxLen] at hcm
    have hw : IntKind.i64.wrap (k : Int) = k := by rw [wrap_i64]; omega
                                                   omega
    have hneg : ¬ ((k : Int) < 0) := by omega
    have h48 : ¬ (281474976710656 < (k : Int) * (i.bytes : Int)) := by rw [hz2]; omega
    have hlen2 : (bV (bs ++ List.replicate k 0)).length = (n + k) * 1 := by rw [length_bV, List.length_append, List.length_replicate, Nat.mul_one, ← hxl, length_bV]
    by_cases hroom : n + k ≤ c
    · have hblk : Blk w g cur.toList e := by show w.heap[g]? = _; rw [hg]
      obtain ⟨hst, hbl, hgr⟩ := blk_put hblk (o := n) (vs := bV (List.replicate k 0)) (by rw [length_bV, List.length_replicate, Array.length_toList, hcs]; omega) (bV_one _)
      have hstore := run_storeCells (P := P) hst
      rw [length_bV, List.length_replicate] at hbl
      refine ⟨(some ⟨g, 0, none⟩, n + k, c), _, ?_, hK _ _ _ ⟨hlen2, .inr ⟨g, c, _, rfl, hbg, hbl, hroom, by simp only [maxLen]; omega, ?_, ?_⟩⟩ ⟨hgr, fun j hj => .inl hj⟩⟩
      · by_cases hk0 : k = 0
        · subst hk0
          have hw0 : IntKind.i64.wrap 0 = 0 := by decide
          simp [Builtin.append_, run_underlying ht, run_underlying hu, sizeOf, typeInfo, zeroValue, hi, hz0, hz1, hz2, asInt, asIntOf, hw0, hnc, storeCells, setCells, bV]
          rfl
        · have e1 : (Builtin.zeroCells #[Value.int .u8 0] k).toList = bV (List.replicate k 0) := toList_zeros k
          simp [Builtin.append_, run_underlying ht, run_underlying hu, sizeOf, typeInfo, zeroValue, hi, hz0, hz1, hz2, asInt, asIntOf, hw, hneg, show ¬ (281474976710656 < (k : Int)) by omega, hk0, hroom, add_mk, Value.cells, e1, hstore]
          rfl
      · simp only [List.size_toArray, List.length_append, List.length_take, List.length_drop, Array.length_toList, length_bV, List.length_replicate, hcs]
        omega
      · simp only [Nat.mul_one] at htake ⊢
        rw [htake, bV_append, ← hxl]
        have : ((bV bs).length + k) = (bV bs ++ bV (List.replicate k 0)).length := by simp [length_bV]
        rw [this, List.take_left]
    · have hold : (Builtin.firstCells i.size n (.slice (some ⟨g, 0, none⟩) n c)).run P w.drew = .ok (bV bs).toArray w.drew := by
        have hc := World.ownsRow.cells ho (g := g) rfl
        have hload := run_loadCells_list (P := P) w.drew ⟨g, 0, none⟩ (bV bs) (fun j v hj => hc j v hj)
        rw [hxl] at hload
        simp [Builtin.firstCells, hz1, hload]
      have hr := Go.Lib.run_append_grow_zeros (P := P) w t tn ty e i (.int .u8 0) .i64 kn ht hu hi hz0 (some ⟨g, 0, none⟩) n c (bV bs) hold k (by omega) (by omega) (by omega) (by omega) (by rw [hz2]; omega) (growslice_fits (by omega) (by rw [hz2]; omega))
      have hge := grownCap_ge w (n + k) c e
      have hcm2 := grownCap_le_maxLen w (n + k) c e (by simp only [maxLen]; omega)
      refine ⟨(some ⟨w.heap.size, 0, none⟩, n + k, grownCap w (n + k) c e), _, hr, hK _ _ _ ⟨hlen2, .inr ⟨w.heap.size, _, _, rfl, hB, heap_alloc_new w.drew _, hge, hcm2, ?_, ?_⟩⟩ ⟨⟨rfl, rfl, rfl, by simp, fun k hk _ => ((Ext.refl w.drew).alloc _).block k hk⟩, fun j hj => .inr (by injection hj with hj; exact Nat.le_of_eq hj)⟩⟩
      · have hz1' : (Value.int IntKind.u8 0).cells.size = 1 := rfl
        simp only [Array.size_append, List.size_toArray, size_zeroCells, hz1', hxl]
        omega
      · simp only [Array.toList_append, List.append_assoc, toList_zeros]
        rw [← List.append_assoc, ← bV_append, ← hlen2]
        exact List.take_left
/-- Noughts that are written over, from the first on. -/
theorem put_at (pre new : List UInt8) (k : Nat) (h : new.length ≤ k) : (pre ++ List.replicate k (0 : UInt8)).take pre.length ++ new ++ (pre ++ List.replicate k (0 : UInt8)).drop (pre.length + new.length) = (pre ++ new) ++ List.replicate (k - new.length) 0 := by
  rw [List.take_left, List.drop_append]
  simp [List.drop_of_length_le]
end Go.Proofs.YtcjobbcijbkjkaaGreat.V

/- []byte(s) of a string, written into: the row bears the mark of a conversion behind its cells. -/
set_option linter.unusedVariables false
set_option linter.unusedSimpArgs false
namespace Go.Proofs.YtcjobbcijbkjkaaGreat.V
open Go Go.Proofs Go.RowKit

/-- A block known whole, with the mark of a conversion behind its cells. -/
def BlkB (w : World) (b : Nat) (cs : List Value) (t : TypeId) : Prop := w.heap[b]? = some (.cells cs.toArray t (cs.length, cs.length + 1))
variable {w w' : World} {b : Nat} {cs : List Value} {t : TypeId}
theorem BlkB.lt (h : BlkB w b cs t) : b < w.heap.size := (Array.getElem?_eq_some_iff.1 h).1
theorem BlkB.cell (h : BlkB w b cs t) (o : Nat) : w.cell? ⟨b, o, none⟩ = cs[o]? := by simp [World.cell?, show w.heap[b]? = _ from h]
theorem BlkB.frozen (h : BlkB w b cs t) {o : Nat} (ho : o < cs.length) : w.frozen? ⟨b, o, none⟩ = false := by
  simp [World.frozen?, show w.heap[b]? = _ from h]
  omega
theorem BlkB.ext (h : BlkB w b cs t) (he : Ext w w') : BlkB w' b cs t := he.heap h
theorem BlkB.set (h : BlkB w b cs t) (o : Nat) (v : Value) : BlkB (w.setCell ⟨b, o, none⟩ v) b (cs.set o v) t := by
  obtain ⟨hlt, hk⟩ := Array.getElem?_eq_some_iff.1 h
  show (w.heap.modify b _)[b]? = _
  rw [Array.getElem?_eq_getElem (by rw [Array.size_modify]; exact hlt), Array.getElem_modify_self, hk]
  simp
theorem BlkB.setCells_from : ∀ (vs : List Value) (i : Nat) (w : World) (cs : List Value), BlkB w b cs t → i + vs.length ≤ cs.length → BlkB (setCells w ⟨b, 0, none⟩ i vs) b (cs.take i ++ vs ++ cs.drop (i + vs.length)) t
  | [], i, w, cs, h, _ => by simpa [setCells] using h
  | v :: r, i, w, cs, h, hl => by
    simp only [setCells, add_mk, Nat.zero_add]
    have h1 := h.set i v
    have h2 := BlkB.setCells_from r (i + 1) _ _ h1 (by simp only [List.length_set, List.length_cons] at hl ⊢; omega)
    have hlen : i < cs.length := by simp only [List.length_cons] at hl; omega
    have e : (cs.set i v).take (i + 1) ++ r ++ (cs.set i v).drop (i + 1 + r.length) = cs.take i ++ (v :: r) ++ cs.drop (i + (v :: r).length) := by
      rw [List.drop_set_of_lt (by omega), List.take_set, List.set_eq_take_append_cons_drop]
      have : i < (cs.take (i + 1)).length := by simp; omega
      rw [if_pos this]
      simp [List.take_take, Nat.min_eq_left (show i ≤ i + 1 by omega), Nat.add_comm, Nat.add_left_comm]
    rw [e] at h2
    exact h2
theorem BlkB.storable_from (h : BlkB w b cs t) : ∀ (vs : List Value) (i : Nat), i + vs.length ≤ cs.length → (∀ v ∈ vs, v.oneCell' = true) → Storable w ⟨b, 0, none⟩ i vs
  | [], _, _, _ => trivial
  | v :: r, i, hl, ho => by
    simp only [List.length_cons] at hl
    refine ⟨ho v List.mem_cons_self, ?_, ?_, BlkB.storable_from h r (i + 1) (by omega) (fun x hx => ho x (List.mem_cons_of_mem _ hx))⟩
    · rw [add_mk, h.cell]; exact ⟨_, List.getElem?_eq_getElem (by omega)⟩
    · rw [add_mk]; exact h.frozen (by omega)
theorem blkB_put {w : World} {b o : Nat} {cs vs : List Value} {t : TypeId} (h : BlkB w b cs t) (hl : o + vs.length ≤ cs.length) (hv : ∀ v ∈ vs, v.oneCell' = true) :
    Storable w ⟨b, o, none⟩ 0 vs ∧ BlkB (setCells w ⟨b, o, none⟩ 0 vs) b (cs.take o ++ vs ++ cs.drop (o + vs.length)) t ∧ w.grownBy (setCells w ⟨b, o, none⟩ 0 vs) (some b) := by
  refine ⟨storable_shift b o vs 0 w (h.storable_from vs o hl hv), ?_, ?_⟩
  · rw [setCells_shift]
    exact BlkB.setCells_from vs o w cs h hl
  · obtain ⟨m1, m2, m3⟩ := setCells_meta b vs 0 o w
    exact ⟨m1, m2, m3, by rw [setCells_size]; exact Nat.le_refl _, fun k hk hne => setCells_other b vs 0 o w k (fun e => hne (by rw [e]))⟩
theorem BlkB.sl {n : Nat} {vs rest : List Value} (h : BlkB w b (vs ++ rest) t) (hn : vs.length = n) (hm : n ≤ 9223372036854775807) : Sl w (some ⟨b, 0, none⟩) n vs := by
  refine ⟨hn, hm, fun _ => ⟨_, rfl, fun j v hj => ?_⟩⟩
  rw [add_mk, h.cell, Nat.zero_add, List.getElem?_append_left (List.getElem?_eq_some_iff.1 hj).1]
  exact hj
section
variable {P : Program} {e : TypeId} {z : Value} {bytes : Nat} {src dst : TypeId}
theorem conv_bytesB {w : World} {s : ByteArray} {u : TypeDesc} {K : (Option Addr × Nat × Nat) → WP} (hs : P.underlying src = some u) (hd : P.underlying dst = some (.slice e)) (he : P.underlying e = some (.int .u8))
    (hK : ∀ c w' rest, BlkB w' w.heap.size (bV (B s) ++ rest) e → Ext w w' → w'.heap.size = w.heap.size + 1 → s.size ≤ c → K (some ⟨w.heap.size, 0, none⟩, s.size, c) w') :
    runW P (convert src dst (.string s)) .slc K w := by
  refine ⟨(some ⟨w.heap.size, 0, none⟩, s.size, _), _, Go.Lib.run_convert_string_bytes w src dst e s hs hd he, hK _ _ (List.replicate (grownCap w s.size 0 e - s.size) (.int .u8 0)) ?_ ?_ (Go.Lib.bytesWorld_size w e s) ?_⟩
  · have hc : (Go.Lib.bytesCells w e s) = (bV (B s) ++ List.replicate (grownCap w s.size 0 e - s.size) (Value.int .u8 0)).toArray := by
      apply Array.toList_inj.1
      simp [Go.Lib.bytesCells, bV, B]
    have := Go.Lib.bytesWorld_at_new w e s
    rw [hc] at this
    unfold BlkB
    rw [this]
    rfl
  · exact ⟨rfl, rfl, rfl, by rw [Go.Lib.bytesWorld_size]; omega, fun k hk => Go.Lib.bytesWorld_at_old w e s k hk⟩
  · exact grownCap_ge _ _ _ _
theorem copy_strB {t : TypeId} {w : World} {b o n c : Nat} {ty u t2 : TypeId} {cs : List Value} {s : ByteArray} {K : Int → WP} (hE : Elem P t e z bytes) (hb : BlkB w b cs t2) (ho : o + n ≤ cs.length)
    (hK : ∀ w', BlkB w' b (cs.take o ++ bV ((B s).take n) ++ cs.drop (o + min (B s).length n)) t2 → w.grownBy w' (some b) → K ((min (B s).length n : Nat) : Int) w') :
    runW P (Builtin.copy_ #[t, u] ty #[.slice (some ⟨b, o, none⟩) n c, .string s]) (.int .i64) K w := by
  obtain ⟨ht, hi, hz⟩ := hE
  obtain ⟨i, hi, hii⟩ := Option.map_eq_some_iff.1 hi
  simp only [Prod.mk.injEq] at hii
  obtain ⟨hz0, hz1, hz2⟩ := hii
  have hsz := B_size s
  have hlen : (bV ((B s).take n)).length = min (B s).length n := by rw [length_bV, List.length_take, Nat.min_comm]
  obtain ⟨hst, hbl, hg⟩ := blkB_put hb (o := o) (vs := bV ((B s).take n)) (by rw [hlen]; omega) (bV_one _)
  rw [hlen] at hbl
  have hstore := run_storeCells (P := P) hst
  have e1 : List.take (if s.size ≤ n then s.size else n) (List.map (fun b => Value.int IntKind.u8 (b.toNat : Int)) s.data.toList) = bV ((B s).take n) := by
    rw [← Nat.min_def, hsz]
    show List.take _ (bV (B s)) = _
    rw [bV_take]
    congr 1
    rcases Nat.le_total (B s).length n with h | h
    · rw [Nat.min_eq_left h, List.take_length, List.take_of_length_le h]
    · rw [Nat.min_eq_right h]
  refine ⟨((min (B s).length n : Nat) : Int), _, ?_, hK _ hbl hg⟩
  rw [← hsz]
  simp [Builtin.copy_, run_underlying ht, sizeOf, typeInfo, hi, Builtin.lenOf, Builtin.firstCells, hstore, goInt, Nat.min_def, Lf.val]
  rw [e1, hstore]
  rfl
end
end Go.Proofs.YtcjobbcijbkjkaaGreat.V
