/- Appends of what is read, makes, conversions of constants: rules. -/
import Derived.Test.YtlpniinmomhkcaaDoorH2
import Derived.Lib.SlBytesConst
set_option linter.unusedVariables false
set_option linter.unusedSimpArgs false
namespace Go.Proofs.YtlpniinmomhkcaaDoor.V
open Go Go.RowKit

/-- A row of our own, as a slice. -/
def Own (e : TypeId) (w : World) (B : Nat) (A : Option Addr) (n c : Nat) (vs : List Value) : Prop := w.ownsRow B e 1 (.slice A n c) n vs
section
variable {e : TypeId} {w w' : World} {B B' : Nat} {A : Option Addr} {n c : Nat} {vs : List Value}
theorem Own.sl (h : Own e w B A n c vs) : Sl w A n vs := own_sl h
theorem Own.len (h : Own e w B A n c vs) : vs.length = n := h.sl.len
theorem Own.le (h : Own e w B A n c vs) : n ≤ c ∧ c ≤ 9223372036854775807 := own_le h
theorem Own.ext (h : Own e w B A n c vs) (he : Ext w w') : Own e w' B A n c vs := own_ext h he
theorem Own.lower (h : Own e w B A n c vs) (hB : B' ≤ B) : Own e w B' A n c vs := own_lower h hB
theorem Own.grown {row : Option Nat} (h : Own e w B A n c vs) (hg : w.grownBy w' row) (hr : ∀ j, row = some j → j < B) : Own e w' B A n c vs :=
  World.ownsRow.kept h hg (match A, h with
    | none, _ => .inl rfl
    | some a, h => .inr fun he => absurd (hr a.block he.symm) (Nat.not_lt.2 (World.ownsRow.lt h a.block rfl).1))
theorem Own.row (h : Own e w B A n c vs) : ∀ j, Value.ownBlock (.slice A n c) = some j → B ≤ j := fun j hj => (World.ownsRow.lt h j hj).1
theorem Own.nil (e : TypeId) (w : World) (B : Nat) : Own e w B none 0 0 [] := World.ownsRow_nil w B e 1
theorem Own.lit {cs : Array Value} (hB : B ≤ w.heap.size) (hm : cs.size ≤ 9223372036854775807) : Own e (w.alloc (.cells cs e)) B (some ⟨w.heap.size, 0, none⟩) cs.size cs.size cs.toList := own_new hB hm
/-- A cell of one's own is set. -/
theorem Own.set {b i : Nat} {v : Value} (h : Own e w B (some ⟨b, 0, none⟩) n c vs) : Own e (w.setCell ⟨b, i, none⟩ v) B (some ⟨b, 0, none⟩) n c (vs.set i v) ∧ w.grownBy (w.setCell ⟨b, i, none⟩ v) (some b) := World.ownsRow.stored h i v
theorem Own.addr (h : Own e w B A n c vs) (hn : 0 < n) : ∃ b, A = some ⟨b, 0, none⟩ ∧ B ≤ b := by
  rcases h.2 with ⟨h1, h2⟩ | ⟨g, cap, cur, hv, hb, _⟩
  · omega
  · injection hv with hv1; exact ⟨g, hv1, hb⟩
theorem Own.st {b i : Nat} {v : Value} {K : WP} (h : Own e w B (some ⟨b, 0, none⟩) n c vs) (hi : i < n) (hK : K (w.setCell ⟨b, i, none⟩ v)) : stW ⟨b, i, none⟩ v K w := by
  refine ⟨?_, World.ownsRow.frozenAt h i, hK⟩
  have hl := h.len
  rw [World.ownsRow.cellAt h i (by omega)]
  exact ⟨_, List.getElem?_eq_getElem (by omega)⟩
end
theorem Ext.grown {a w w' : World} {row : Option Nat} (h : Ext a w) (hg : w.grownBy w' row) (hr : ∀ j, row = some j → a.heap.size ≤ j) : Ext a w' := ext_of_grown h hg hr
theorem Ext.none {a w w' : World} (h : Ext a w) (hg : w.grownBy w' none) : Ext a w' := ext_of_grown h hg (fun j hj => by cases hj)
/-- What a slice's own row became. -/
structure Grew (w w' : World) (row row' : Option Nat) : Prop where
  grown : w.grownBy w' row
  next : ∀ j, row' = some j → row = some j ∨ w.heap.size ≤ j
theorem Grew.refl (w : World) (row : Option Nat) : Grew w w row row := ⟨grownBy_refl _ _, fun _ h => .inl h⟩
theorem Grew.step {w w1 w2 : World} {r r1 r2 : Option Nat} (h : Grew w w1 r r1) (k : Grew w1 w2 r1 r2) : Grew w w2 r r2 :=
  ⟨grownBy_tr h.grown k.grown h.next, fun j hj => by
    rcases k.next j hj with h1 | h1
    · exact h.next j h1
    · exact .inr (Nat.le_trans h.grown.size h1)⟩
abbrev orow (A : Option Addr) : Option Nat := Value.ownBlock (.slice A 0 0)
theorem orow_eq (A : Option Addr) (n c : Nat) : Value.ownBlock (.slice A n c) = orow A := by cases A <;> rfl
theorem Own.row' {e : TypeId} {w : World} {B : Nat} {A : Option Addr} {n c : Nat} {vs : List Value} (h : Own e w B A n c vs) : ∀ j, orow A = some j → B ≤ j := fun j hj => h.row j (by rw [orow_eq]; exact hj)
section
variable {P : Program} {t e : TypeId} {z : Value} {bytes : Nat}
theorem run_append_none {w : World} {B : Nat} {ty : TypeId} {i : TypeInfo} {v : Value} {n d : Nat} {xs : List Value} (ht : P.underlying t = some (.slice e)) (hi : P.info? e = some i) (hown : w.ownsRow B e 1 v n xs) :
    (Builtin.append_ #[t, t] ty #[v, .slice none 0 d]).run P w = .ok v w := by
  rcases hown.2 with ⟨rfl, rfl⟩ | ⟨g, cap, cur, rfl, _, _, hnc, _⟩
  · simp [Builtin.append_, run_underlying ht, sizeOf, typeInfo, hi, Builtin.lenOf, Builtin.firstCells]
  · simp [Builtin.append_, run_underlying ht, sizeOf, typeInfo, hi, Builtin.lenOf, Builtin.firstCells, hnc, storeCells]
/-- Where the row lies behind an append. -/
theorem append_row {w w' : World} {B : Nat} {ty : TypeId} {A : Option Addr} {a : Addr} {n c m d : Nat} {vs ys : List Value} {v' : Value} (hE : Elem P t e z bytes) (ho : w.ownsRow B e 1 (.slice A n c) n vs)
    (hl : ys.length = m) (hy : ∀ j u, ys[j]? = some u → w.cell? (a.add j) = some u) (hys : ∀ y ∈ ys, y.oneCell' = true) (hlen : (n + m) * bytes ≤ 140737488355328) (hb : 0 < bytes)
    (hr : (Builtin.append_ #[t, t] ty #[.slice A n c, .slice (some a) m d]).run P w = .ok v' w') : ∀ j, v'.ownBlock = some j → Value.ownBlock (.slice A n c) = some j ∨ w.heap.size ≤ j := by
  obtain ⟨ht, hi, hz⟩ := hE
  obtain ⟨i, hi, hii⟩ := Option.map_eq_some_iff.1 hi
  simp only [Prod.mk.injEq] at hii
  obtain ⟨hz0, hz1, hz2⟩ := hii
  have hm : n + m ≤ 140737488355328 := Nat.le_trans (Nat.le_mul_of_pos_right _ hb) hlen
  have hfit : ∀ old, old < n + m → Builtin.nextslicecap (n + m) old * i.bytes ≤ 281474976710656 := fun old ho => growslice_fits (by omega) (by rw [hz2]; exact hlen)
  rcases ho.2 with ⟨h1, h2⟩ | ⟨g, cap, cur, hv, hbg, hg, hnc, hcm, hcs, htake⟩
  · rw [h1] at hr ⊢
    subst h2
    by_cases hm0 : m = 0
    · subst hm0
      have hn : ys = [] := List.eq_nil_of_length_eq_zero hl
      subst hn
      have hr2 : (Builtin.append_ #[t, t] ty #[.slice none 0 0, .slice (some a) 0 d]).run P w = .ok (.slice none 0 0) w := by
        simp [Builtin.append_, run_underlying ht, sizeOf, typeInfo, hi, Builtin.lenOf, Builtin.firstCells, loadCells, loadCellsFrom]
      rw [hr] at hr2
      injection hr2 with e1 e2
      subst e1
      intro j hj
      exact .inl hj
    · have hr2 := run_append_nil (P := P) w t ty e i z ht hi hz0 a m d ys (by rw [hz1, hl, Nat.mul_one]) hy (by omega) (by omega) (by rw [hz2]; simp only [Nat.zero_add] at hlen; omega)
      rw [hr] at hr2
      injection hr2 with e1 e2
      subst e1
      intro j hj
      injection hj with hj
      exact .inr (Nat.le_of_eq hj)
  · rw [hv] at hr ho ⊢
    by_cases hroom : n + m ≤ cap
    · obtain ⟨w2, hr2, _⟩ := run_append_fits (P := P) w B t ty e i 1 ht hi hz1 g n cap vs ho a m d ys (by rw [hl, Nat.mul_one]) hy hys hroom
      rw [hr] at hr2
      injection hr2 with e1 e2
      subst e1
      intro j hj
      exact .inl hj
    · have hr2 := run_append_grow (P := P) w t ty e i z ht hi hz0 ⟨g, 0, none⟩ n cap vs (by rw [hz1]; exact ho.1) (ho.cells (g := g) rfl) a m d ys (by rw [hz1, hl, Nat.mul_one]) hy (by omega) (by omega) (hfit cap (by omega))
      rw [hr] at hr2
      injection hr2 with e1 e2
      subst e1
      intro j hj
      injection hj with hj
      exact .inr (Nat.le_of_eq hj)
/-- append(s, x...) -/
theorem append_sl {w : World} {B : Nat} {ty : TypeId} {A X : Option Addr} {n c m d : Nat} {vs ys : List Value} {K : (Option Addr × Nat × Nat) → WP} (hE : Elem P t e z bytes) (ho : Own e w B A n c vs) (hB : B ≤ w.heap.size)
    (hx : Sl w X m ys) (hys : ∀ y ∈ ys, y.oneCell' = true) (hlen : (n + m) * bytes ≤ 140737488355328) (hb : 0 < bytes)
    (hK : ∀ A' c' w', Own e w' B A' (n + m) c' (vs ++ ys) → Grew w w' (orow A) (orow A') → (A' = none ↔ A = none ∧ m = 0) → K (A', n + m, c') w') :
    runW P (Builtin.append_ #[t, t] ty #[.slice A n c, .slice X m d]) .slc K w := by
  have hE' := hE
  obtain ⟨ht, hi, hz⟩ := hE
  obtain ⟨i, hi, hii⟩ := Option.map_eq_some_iff.1 hi
  simp only [Prod.mk.injEq] at hii
  obtain ⟨hz0, hz1, hz2⟩ := hii
  have hl := hx.len
  have hm : n + m ≤ 140737488355328 := Nat.le_trans (Nat.le_mul_of_pos_right _ hb) hlen
  cases X with
  | none =>
    obtain rfl : m = 0 := by
      rcases Nat.eq_zero_or_pos m with h | h
      · exact h
      · obtain ⟨a, h1, _⟩ := hx.2.2 h; cases h1
    obtain rfl : ys = [] := List.eq_nil_of_length_eq_zero hl
    refine ⟨(A, n, c), w, run_append_none ht hi ho, ?_⟩
    have := hK A c w (by simpa using ho) (Grew.refl _ _) (by simp)
    simpa using this
  | some a =>
    have hcells : ∀ j u, ys[j]? = some u → w.cell? (a.add j) = some u := (fun j u hj => by
        rcases Nat.eq_zero_or_pos m with h | h
        · have : j < ys.length := (List.getElem?_eq_some_iff.1 hj).1
          omega
        · obtain ⟨a', h1, h2⟩ := hx.2.2 h
          cases h1
          exact h2 j u hj)
    obtain ⟨v', w', hr, hown, hg, hn⟩ := run_append_own (P := P) w B t ty e i z 1 bytes ht hi hz0 hz1 hz2 hz (by omega) (.slice A n c) n vs ho a m d ys (by simpa using hl) hcells hys (by simp only [maxLen]; omega) hlen hB
    have hrow := append_row hE' ho hl hcells hys hlen hb hr
    have hnn : ∀ {A n c}, Own e w B A n c vs → (A = none ↔ Value.slice A n c = .slice none 0 0) := fun {A n c} h => by
      constructor
      · rintro rfl
        rcases h.2 with ⟨h1, _⟩ | ⟨g, cap, cur, hv, _⟩
        · exact h1
        · cases hv
      · intro h; injection h
    obtain ⟨A', c', rfl⟩ : ∃ A' c', v' = .slice A' (n + m) c' := by
      rcases hown.2 with ⟨h1, h2⟩ | ⟨g, cap, cur, hv, _⟩
      · exact ⟨none, 0, by rw [h1, h2]⟩
      · exact ⟨_, _, hv⟩
    refine ⟨(A', n + m, c'), w', hr, hK A' c' w' hown ⟨by rw [orow_eq] at hg; exact hg, fun j hj => ?_⟩ ?_⟩
    · have := hrow j (by rw [orow_eq]; exact hj)
      rw [orow_eq] at this
      exact this
    constructor
    · rintro rfl
      have : Value.slice none (n + m) c' = .slice none 0 0 := by
        rcases hown.2 with ⟨h1, _⟩ | ⟨g, cap, cur, hv, _⟩
        · exact h1
        · cases hv
      obtain ⟨h1, h2⟩ := hn.1 this
      exact ⟨(hnn ho).2 h1, h2⟩
    · rintro ⟨rfl, rfl⟩
      have := hn.2 ⟨(hnn ho).1 rfl, rfl⟩
      injection this
/-- append(s, y): the element's own block, then the append. -/
theorem append_new {w : World} {B : Nat} {ty : TypeId} {A : Option Addr} {n c : Nat} {vs ys : List Value} {K : (Option Addr × Nat × Nat) → WP} (hE : Elem P t e z bytes) (ho : Own e w B A n c vs) (hB : B ≤ w.heap.size)
    (hys : ∀ y ∈ ys, y.oneCell' = true) (hlen : (n + ys.length) * bytes ≤ 140737488355328) (hb : 0 < bytes)
    (hK : ∀ A' c' w', Own e w' B A' (n + ys.length) c' (vs ++ ys) → Grew w w' (orow A) (orow A') → K (A', n + ys.length, c') w') :
    (newW (.cells ys.toArray e) fun r => runW P (Builtin.append_ #[t, t] ty #[.slice A n c, .slice (some (⟨r, 0, none⟩ : Addr)) ys.length ys.length]) .slc K) w := by
  apply newW_i
  have hm : n + ys.length ≤ 140737488355328 := Nat.le_trans (Nat.le_mul_of_pos_right _ hb) hlen
  have hblk : Blk (w.alloc (.cells ys.toArray e)) w.heap.size ys e := by simpa using Blk.new w ys.toArray e
  refine append_sl hE (World.ownsRow.alloc ho _) (by simp; omega) (Sl.of_blk hblk rfl (by omega)) hys hlen hb ?_
  intro A' c' w' ho' hg _
  exact hK A' c' w' ho' ⟨grownBy_tr (World.grownBy_alloc w _ _) hg.grown (fun j hj => .inl hj), fun j hj => by
    rcases hg.next j hj with h | h
    · exact .inl h
    · right
      have : (w.alloc (.cells ys.toArray e)).heap.size = w.heap.size + 1 := by simp
      omega⟩
/-- make([]T, n) -/
theorem make_own {w : World} {B n : Nat} {kl kc : IntKind} {K : (Option Addr × Nat × Nat) → WP} (hE : Elem P t e z bytes) (hone : z.cells = #[z]) (hB : B ≤ w.heap.size) (hlen : bytes * n ≤ 140737488355328) (hb : 0 < bytes)
    (hK : ∀ w', Own e w' B (some ⟨w.heap.size, 0, none⟩) n n (List.replicate n z) → w.grownBy w' none → K (some ⟨w.heap.size, 0, none⟩, n, n) w') :
    runW P (Instr.makeSlice t (.int kl (n : Int)) (.int kc (n : Int))) .slc K w := by
  obtain ⟨ht, hi, hz⟩ := hE
  obtain ⟨i, hi, hii⟩ := Option.map_eq_some_iff.1 hi
  simp only [Prod.mk.injEq] at hii
  obtain ⟨hz0, hz1, hz2⟩ := hii
  have hm : n ≤ 140737488355328 := Nat.le_trans (Nat.le_mul_of_pos_left _ hb) hlen
  obtain ⟨w', hr, hown, hg⟩ := run_make_full (P := P) w B t e i z 1 ht hi hz0 hz1 kl kc n (by rw [hz2]; omega) (by simp only [maxLen]; omega) hB
  refine ⟨(some ⟨w.heap.size, 0, none⟩, n, n), w', hr, hK w' ?_ hg⟩
  rw [Nat.mul_one, hone, toList_madeCells_one] at hown
  exact hown
/-- []byte("..."), of a constant -/
theorem conv_const {w : World} {cs : Array Value} {n : Nat} {K : (Option Addr × Nat × Nat) → WP} (ht : P.underlying t = some (.slice e)) (he : P.underlying e = some (.int .u8)) (hn : cs.size = n) (hm : n ≤ 9223372036854775807)
    (hK : ∀ w', Sl w' (some ⟨w.heap.size, 0, none⟩) n cs.toList → Ext w w' → K (some ⟨w.heap.size, 0, none⟩, n, n) w') :
    (newW (.cells cs e) fun r => runW P (convert t t (.slice (some (⟨r, 0, none⟩ : Addr)) n n)) .slc K) w := by
  refine ⟨(some ⟨w.heap.size, 0, none⟩, n, n), _, Go.Lib.run_convert_bytes_const w t e cs n n ht he, hK _ ?_ ((Ext.refl w).alloc _)⟩
  refine ⟨by simpa using hn, hm, fun _ => ⟨_, rfl, fun j v hj => ?_⟩⟩
  rw [add_mk]
  have : (w.alloc (.cells cs e (cs.size, cs.size + 1))).heap[w.heap.size]? = some (.cells cs e (cs.size, cs.size + 1)) := by
    show (w.heap.push _)[w.heap.size]? = _
    simp
  simp only [World.cell?, this]
  simpa using hj
end
theorem bV_one (bs : List UInt8) : ∀ v ∈ bV bs, v.oneCell' = true := by
  intro v hv
  obtain ⟨t, _, rfl⟩ := List.mem_map.1 hv
  rfl
theorem nV_one (k : IntKind) (xs : List Int) : ∀ v ∈ nV k xs, v.oneCell' = true := by
  intro v hv
  obtain ⟨t, _, rfl⟩ := List.mem_map.1 hv
  rfl
theorem bV_set (bs : List UInt8) (i : Nat) (b : UInt8) : (bV bs).set i (.int .u8 (b.toNat : Int)) = bV (bs.set i b) := by simp [bV, List.map_set]
/-- A place of a slice of one's own is set. -/
theorem idx_set {w : World} {e : TypeId} {B : Nat} {A : Option Addr} {n c : Nat} {vs : List Value} {i : Int} {v : Value} {K : WP} (h : Own e w B A n c vs) (h0 : 0 ≤ i) (h1 : i < (n : Int))
    (hK : ∀ w', Own e w' B A n c (vs.set i.toNat v) → w.grownBy w' (Value.ownBlock (.slice A n c)) → K w') :
    (guardW (0 ≤ i ∧ i < ((n : Nat) : Int)) <| ptrW A fun p => stW (p.add (Int.toNat i * 1)) v K) w := by
  obtain ⟨b, rfl, hb⟩ := h.addr (by omega)
  refine ⟨⟨h0, h1⟩, _, rfl, ?_⟩
  show stW ((⟨b, 0, none⟩ : Addr).add (Int.toNat i * 1)) v K w
  rw [Nat.mul_one, add_mk, Nat.zero_add]
  have := h.set (i := i.toNat) (v := v)
  exact h.st (by omega) (hK _ this.1 this.2)
/-- An array that is read whole. -/
theorem ldR_blk {w : World} {b n : Nat} {cs : Array Value} {t : TypeId} {K : Array Value → WP} (h : Blk w b cs.toList t) (hn : cs.size = n) (hK : K cs w) : ldRW n ⟨b, 0, none⟩ K w := by
  have := h.cellsAt
  exact ⟨cs, hn, this, hK⟩
end Go.Proofs.YtlpniinmomhkcaaDoor.V
