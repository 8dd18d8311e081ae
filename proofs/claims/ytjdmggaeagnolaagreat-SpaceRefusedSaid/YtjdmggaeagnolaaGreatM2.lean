/- Texts of mine, merged (wip/tool/mergep.py): HX, DecMore, HM, HP, HB, S, KGeo, HI, KKit. -/
import Derived.Test.YtjdmggaeagnolaaGreatM1
import Derived.MapKept
import Derived.Lib.AppendZerosOnto
import Derived.Test.YtjdmggaeagnolaaGreatChecked
/- Rules that a walk uses often. -/
set_option linter.unusedVariables false
set_option linter.unusedSimpArgs false
namespace Go.Proofs.YtjdmggaeagnolaaGreat.V
open Go Go.RowKit
variable {α : Type}
/-- A new block. -/
theorem new_i {w : World} {cs : Array Value} {t : TypeId} {K : Nat → WP} (h : ∀ r w', Blk w' r cs.toList t → Ext w w' → w.heap.size = r → w'.heap.size = r + 1 → K r w') : newW (.cells cs t) K w :=
  h w.heap.size _ (Blk.new w cs t) ((Ext.refl w).alloc _) rfl (by simp)
theorem draw_i {w : World} {K : WP} (h : ∀ w', Ext w w' → w'.heap.size = w.heap.size → (∀ k : Nat, w'.heap[k]? = w.heap[k]?) → K w') : drewW K w := h w.drew (Ext.refl w).drew rfl (fun _ => rfl)
/-- An element of a slice, whole. -/
theorem idx_A {E : Enc α} {ls : List Lf} {w : World} {A : Option Addr} {n k : Nat} {xs : List α} {i : Int} {K : LT ls → WP} (y : α → LT ls) (d : α) (h : Sli E w A n xs) (hy : ∀ x, LT.vals ls (y x) = E.f x) (hk : E.k = k) (h0 : 0 ≤ i) (h1 : i < (n : Int)) (hK : K (y (xs.getD i.toNat d)) w) :
    (guardW (0 ≤ i ∧ i < ((n : Nat) : Int)) <| ptrW A fun p => ldAW ls (p.add (Int.toNat i * k)) K) w := by
  have hi : i.toNat < xs.length := by have := h.1; omega
  refine idx_el h h0 (x := xs.getD i.toNat d) (by simp [hi]) hk ?_
  intro p hp hcell
  exact ldA_i (by rw [hy]; exact hcell) hK
theorem cellsAt_get {w : World} {a : Addr} (ha : a.spot = none) : ∀ {vs : List Value} {i o : Nat} {v : Value}, CellsAt w a i vs → vs[o]? = some v → w.cell? (a.add (i + o)) = some v
  | [], _, o, _, _, h => by simp at h
  | u :: r, i, 0, v, hc, h => by
    simp only [List.getElem?_cons_zero, Option.some.injEq] at h
    subst h
    exact hc.1
  | u :: r, i, o + 1, v, hc, h => by
    have := cellsAt_get ha (i := i + 1) hc.2 (by simpa using h)
    rw [show i + (o + 1) = i + 1 + o by omega]
    exact this
/-- A field of an element of a slice. -/
theorem idx_f {E : Enc α} {l : Lf} {w : World} {A : Option Addr} {n k : Nat} {xs : List α} {i : Int} {K : l.T → WP} (o : Nat) (y : α → l.T) (d : α) (h : Sli E w A n xs) (hy : ∀ x, (E.f x)[o]? = some (l.val (y x))) (hk : E.k = k) (h0 : 0 ≤ i) (h1 : i < (n : Int)) (hK : K (y (xs.getD i.toNat d)) w) :
    (guardW (0 ≤ i ∧ i < ((n : Nat) : Int)) <| ptrW A fun p => ldW l ((p.add (Int.toNat i * k)).add o) K) w := by
  have hi : i.toNat < xs.length := by have := h.1; omega
  refine idx_el h h0 (x := xs.getD i.toNat d) (by simp [hi]) hk ?_
  intro p hp hcell
  have hsp : (p.add (Int.toNat i * k)).spot = none := by
    obtain ⟨b, o, s⟩ := p
    simp only at hp
    subst hp
    rw [add_mk]
  have := cellsAt_get hsp hcell (hy _)
  rw [Nat.zero_add] at this
  exact ld_i this hK
/-- A box, read whole, or a field of it. -/
theorem boxA {ls : List Lf} {w : World} {b : Nat} {cs : List Value} {t : TypeId} {K : LT ls → WP} (x : LT ls) (h : Blk w b cs t) (hx : LT.vals ls x = cs) (hK : K x w) : ldAW ls ⟨b, 0, none⟩ K w := ⟨x, by rw [hx]; exact h.cellsAt, hK⟩
theorem boxF {l : Lf} {w : World} {b : Nat} {cs : List Value} {t : TypeId} {K : l.T → WP} (o : Nat) (x : l.T) (h : Blk w b cs t) (hx : cs[o]? = some (l.val x)) (hK : K x w) : ldW l ((⟨b, 0, none⟩ : Addr).add o) K w := ld_blk h hx hK
theorem box0 {l : Lf} {w : World} {b : Nat} {cs : List Value} {t : TypeId} {K : l.T → WP} (x : l.T) (h : Blk w b cs t) (hx : cs[0]? = some (l.val x)) (hK : K x w) : ldW l ⟨b, 0, none⟩ K w := ldW_blk h hx hK
/-- A box that is filled anew. -/
theorem refill {w : World} {b n : Nat} {cs vs : List Value} {t : TypeId} {us : Array Value} {K : WP} (h : Blk w b cs t) (hl : vs.length = cs.length) (hv : ∀ v ∈ vs, v.oneCell' = true) (hu : us.size = n)
    (hK : ∀ w', Blk w' b vs t → (∀ w0, Ext w0 w → w0.heap.size ≤ b → Ext w0 w') → (∀ k : Nat, k ≠ b → w'.heap[k]? = w.heap[k]?) → w'.heap.size = w.heap.size → K w') :
    (guardW (us.size = n) <| stAW (⟨b, 0, none⟩ : Addr) vs K) w := by
  refine ⟨hu, h.storable_from vs 0 (by omega) hv, hK _ (h.setCells vs hl) (fun w0 he hb => he.setCells hb vs 0) ?_ ?_⟩
  · intro k hk
    have : ∀ (vs : List Value) (i : Nat) (w : World), (setCells w ⟨b, 0, none⟩ i vs).heap[k]? = w.heap[k]? := by
      intro vs
      induction vs with
      | nil => intro i w; rfl
      | cons v r ih =>
        intro i w
        simp only [setCells]
        rw [ih, Below.heap_setCell _ _ _ _ (by rw [add_mk]; simp only; omega)]
    exact this vs 0 w
  · have : ∀ (vs : List Value) (i : Nat) (w : World), (setCells w ⟨b, 0, none⟩ i vs).heap.size = w.heap.size := by
      intro vs
      induction vs with
      | nil => intro i w; rfl
      | cons v r ih => intro i w; simp only [setCells]; rw [ih]; simp
    exact this vs 0 w
end Go.Proofs.YtjdmggaeagnolaaGreat.V
/- Texts and numbers that came in, in slices, opened. -/
set_option linter.unusedVariables false
set_option linter.unusedSimpArgs false
namespace Go.Proofs.YtjdmggaeagnolaaGreat.V
open Go Go.ChangeShapes Go.WideShapes Go.ChangeAt Go.RowKit Go.Deep Go.Proofs
section
variable {H : Type} {enc : TypeId × Value → H} {P : Program} {w : World} {base : Nat} {spare : Nat → Bool} {held : Bool}
theorem dec_u32E {t : TypeId} {n : Nat} {cs : List Value} {x : DataW H × List MemPlace} (ht : P.underlying t = some (.int .u32)) (h : DataW.trod enc P w base spare held n t cs = some x) : ∃ z : Nat, (numE .u32).f z = cs ∧ z < 4294967296 := by
  obtain ⟨z, h1, h2⟩ := dec_int ht h
  have := nat_u32 h2
  refine ⟨z.toNat, ?_, by omega⟩
  rw [h1]
  show [Value.int .u32 ((z.toNat : Nat) : Int)] = _
  rw [show ((z.toNat : Nat) : Int) = z by omega]
end
end Go.Proofs.YtjdmggaeagnolaaGreat.V
/- Maps from ints to empty structs: sets of ints. -/
set_option linter.unusedVariables false
set_option linter.unusedSimpArgs false
namespace Go.Proofs.YtjdmggaeagnolaaGreat.V
open Go Go.Proofs Go.RowKit Go.MapKept
/-- A set of ints. -/
def SetAt (w : World) (r : Nat) (ks : List Int) : Prop := ∃ (es : Array MapEntry) (clock : Nat), w.heap[r]? = some (.map es clock) ∧ es.toList.map (·.key) = ks.map (fun k => Value.int .i64 k) ∧ ∀ e ∈ es.toList, e.val = .agg #[]
theorem SetAt.ext {w w' : World} {r : Nat} {ks : List Int} (h : SetAt w r ks) (he : Ext w w') : SetAt w' r ks := by
  obtain ⟨es, c, hb, h1, h2⟩ := h
  exact ⟨es, c, he.heap hb, h1, h2⟩
theorem SetAt.grown {w w' : World} {r : Nat} {ks : List Int} {row : Option Nat} (h : SetAt w r ks) (hg : w.grownBy w' row) (hr : some r ≠ row) : SetAt w' r ks := by
  obtain ⟨es, c, hb, h1, h2⟩ := h
  exact ⟨es, c, (hg.block r (Array.getElem?_eq_some_iff.1 hb).1 hr).trans hb, h1, h2⟩
theorem SetAt.lt {w : World} {r : Nat} {ks : List Int} (h : SetAt w r ks) : r < w.heap.size := by
  obtain ⟨es, c, hb, h1, h2⟩ := h
  exact (Array.getElem?_eq_some_iff.1 hb).1
section
variable {P : Program} {t kt et : TypeId}
end
end Go.Proofs.YtjdmggaeagnolaaGreat.V
/- Writing in place: appends within a row's room, copies. -/
set_option linter.unusedVariables false
set_option linter.unusedSimpArgs false
namespace Go.Proofs.YtjdmggaeagnolaaGreat.V
open Go Go.RowKit
theorem setCells_shift (b o : Nat) : ∀ (vs : List Value) (i : Nat) (w : World), setCells w ⟨b, o, none⟩ i vs = setCells w ⟨b, 0, none⟩ (o + i) vs
  | [], _, _ => rfl
  | v :: r, i, w => by
    simp only [setCells, add_mk, Nat.zero_add]
    rw [setCells_shift b o r (i + 1)]
    rfl
theorem storable_shift (b o : Nat) : ∀ (vs : List Value) (i : Nat) (w : World), Storable w ⟨b, 0, none⟩ (o + i) vs → Storable w ⟨b, o, none⟩ i vs
  | [], _, _, _ => trivial
  | v :: r, i, w, h => by
    simp only [Storable, add_mk, Nat.zero_add] at h ⊢
    exact ⟨h.1, h.2.1, h.2.2.1, storable_shift b o r (i + 1) w h.2.2.2⟩
theorem setCells_other (b : Nat) : ∀ (vs : List Value) (i o : Nat) (w : World) (k : Nat), k ≠ b → (setCells w ⟨b, o, none⟩ i vs).heap[k]? = w.heap[k]?
  | [], _, _, _, _, _ => rfl
  | v :: r, i, o, w, k, h => by
    simp only [setCells]
    rw [setCells_other b r (i + 1) o _ k h, Below.heap_setCell _ _ _ _ (by rw [add_mk]; exact h)]
theorem setCells_size (b : Nat) : ∀ (vs : List Value) (i o : Nat) (w : World), (setCells w ⟨b, o, none⟩ i vs).heap.size = w.heap.size
  | [], _, _, _ => rfl
  | v :: r, i, o, w => by
    simp only [setCells]
    rw [setCells_size b r (i + 1) o _]
    simp
theorem setCells_meta (b : Nat) : ∀ (vs : List Value) (i o : Nat) (w : World), (setCells w ⟨b, o, none⟩ i vs).os = w.os ∧ (setCells w ⟨b, o, none⟩ i vs).tape = w.tape ∧ (setCells w ⟨b, o, none⟩ i vs).output = w.output
  | [], _, _, _ => ⟨rfl, rfl, rfl⟩
  | v :: r, i, o, w => setCells_meta b r (i + 1) o _
/-- Cells in a row of one's block are set. -/
theorem blk_put {w : World} {b o : Nat} {cs vs : List Value} {t : TypeId} (h : Blk w b cs t) (hl : o + vs.length ≤ cs.length) (hv : ∀ v ∈ vs, v.oneCell' = true) :
    Storable w ⟨b, o, none⟩ 0 vs ∧ Blk (setCells w ⟨b, o, none⟩ 0 vs) b (cs.take o ++ vs ++ cs.drop (o + vs.length)) t ∧ w.grownBy (setCells w ⟨b, o, none⟩ 0 vs) (some b) := by
  refine ⟨storable_shift b o vs 0 w (h.storable_from vs o hl hv), ?_, ?_⟩
  · rw [setCells_shift]
    exact Blk.setCells_from vs o w cs h hl
  · obtain ⟨m1, m2, m3⟩ := setCells_meta b vs 0 o w
    exact ⟨m1, m2, m3, by rw [setCells_size]; exact Nat.le_refl _, fun k hk hne => setCells_other b vs 0 o w k (fun e => hne (by rw [e]))⟩
section
variable {P : Program} {t e : TypeId} {z : Value} {bytes : Nat}
/-- append(s, x...), where there is room. -/
theorem append_fit {w : World} {b o n c m d : Nat} {ty t2 : TypeId} {X : Option Addr} {cs ys : List Value} {K : (Option Addr × Nat × Nat) → WP} (hE : Elem P t e z bytes) (hb : Blk w b cs t2) (ho : o + c ≤ cs.length) (hn : n + m ≤ c)
    (hx : Sl w X m ys) (hys : ∀ y ∈ ys, y.oneCell' = true)
    (hK : ∀ w', Blk w' b (cs.take (o + n) ++ ys ++ cs.drop (o + n + m)) t2 → w.grownBy w' (some b) → K (some ⟨b, o, none⟩, n + m, c) w') :
    runW P (Builtin.append_ #[t, t] ty #[.slice (some ⟨b, o, none⟩) n c, .slice X m d]) .slc K w := by
  obtain ⟨ht, hi, hz⟩ := hE
  obtain ⟨i, hi, hii⟩ := Option.map_eq_some_iff.1 hi
  simp only [Prod.mk.injEq] at hii
  obtain ⟨hz0, hz1, hz2⟩ := hii
  have hl := hx.len
  obtain ⟨hst, hbl, hg⟩ := blk_put hb (o := o + n) (vs := ys) (by omega) hys
  rw [hl] at hbl
  cases X with
  | none =>
    obtain rfl : m = 0 := by
      rcases Nat.eq_zero_or_pos m with h | h
      · exact h
      · obtain ⟨a, h1, _⟩ := hx.2.2 h; cases h1
    obtain rfl : ys = [] := List.eq_nil_of_length_eq_zero hl
    refine ⟨(some ⟨b, o, none⟩, n, c), w, ?_, hK w (by simpa using hb) (grownBy_refl _ _)⟩
    simp [Builtin.append_, run_underlying ht, sizeOf, typeInfo, hi, Builtin.lenOf, Builtin.firstCells, show n ≤ c by omega, storeCells]
    rfl
  | some a =>
    have hcells : ∀ j u, ys[j]? = some u → w.cell? (a.add j) = some u := (fun j u hj => by
        rcases Nat.eq_zero_or_pos m with h | h
        · have : j < ys.length := (List.getElem?_eq_some_iff.1 hj).1
          omega
        · obtain ⟨a', h1, h2⟩ := hx.2.2 h
          cases h1
          exact h2 j u hj)
    have hload := run_loadCells_list (P := P) w a ys hcells
    have hstore := run_storeCells (P := P) hst
    refine ⟨(some ⟨b, o, none⟩, n + m, c), _, ?_, hK _ hbl hg⟩
    rw [hl] at hload
    simp [Builtin.append_, run_underlying ht, sizeOf, typeInfo, hi, hz1, Builtin.lenOf, Builtin.firstCells, hn, hload, add_mk, hstore]
    rfl
theorem append_newfit {w : World} {b o n c : Nat} {ty t2 : TypeId} {cs ys : List Value} {K : (Option Addr × Nat × Nat) → WP} (hE : Elem P t e z bytes) (hb : Blk w b cs t2) (ho : o + c ≤ cs.length) (hn : n + ys.length ≤ c) (hc : c ≤ 9223372036854775807)
    (hys : ∀ y ∈ ys, y.oneCell' = true)
    (hK : ∀ w', Blk w' b (cs.take (o + n) ++ ys ++ cs.drop (o + n + ys.length)) t2 → w.grownBy w' (some b) → K (some ⟨b, o, none⟩, n + ys.length, c) w') :
    (newW (.cells ys.toArray e) fun r => runW P (Builtin.append_ #[t, t] ty #[.slice (some ⟨b, o, none⟩) n c, .slice (some (⟨r, 0, none⟩ : Addr)) ys.length ys.length]) .slc K) w := by
  refine new_i fun r w1 hr he _ _ => ?_
  refine append_fit hE (hb.ext he) ho hn (Sl.of_blk hr rfl (by omega)) hys fun w' hb' hg => hK w' hb' ?_
  exact grownBy_tr (grownBy_of_ext he _) hg (fun j hj => .inl hj)
/-- copy(s, text) -/
theorem copy_str {w : World} {b o n c : Nat} {ty u t2 : TypeId} {cs : List Value} {s : ByteArray} {K : Int → WP} (hE : Elem P t e z bytes) (hb : Blk w b cs t2) (ho : o + n ≤ cs.length)
    (hK : ∀ w', Blk w' b (cs.take o ++ bV ((B s).take n) ++ cs.drop (o + min (B s).length n)) t2 → w.grownBy w' (some b) → K ((min (B s).length n : Nat) : Int) w') :
    runW P (Builtin.copy_ #[t, u] ty #[.slice (some ⟨b, o, none⟩) n c, .string s]) (.int .i64) K w := by
  obtain ⟨ht, hi, hz⟩ := hE
  obtain ⟨i, hi, hii⟩ := Option.map_eq_some_iff.1 hi
  simp only [Prod.mk.injEq] at hii
  obtain ⟨hz0, hz1, hz2⟩ := hii
  have hsz := B_size s
  have hlen : (bV ((B s).take n)).length = min (B s).length n := by rw [length_bV, List.length_take, Nat.min_comm]
  obtain ⟨hst, hbl, hg⟩ := blk_put hb (o := o) (vs := bV ((B s).take n)) (by rw [hlen]; omega) (bV_one _)
  rw [hlen] at hbl
  have hstore := run_storeCells (P := P) hst
  have e1 : List.take (if s.size ≤ n then s.size else n) (List.map (fun b => Value.int IntKind.u8 (b.toNat : Int)) s.data.toList) = bV ((B s).take n) := by
    rw [← Nat.min_def, hsz]
    show List.take _ (bV (B s)) = _
    rw [bV_take]
    congr 1
    rcases Nat.le_total (B s).length n with h | h
    · rw [Nat.min_eq_left h, List.take_length, List.take_of_length_le h]
    · rw [Nat.min_eq_right h]
  refine ⟨((min (B s).length n : Nat) : Int), _, ?_, hK _ hbl hg⟩
  rw [← hsz]
  simp [Builtin.copy_, run_underlying ht, sizeOf, typeInfo, hi, Builtin.lenOf, Builtin.firstCells, hstore, goInt, Nat.min_def, Lf.val]
  rw [e1, hstore]
  rfl
end
/-- Noughts that are written over, from the first on. -/
theorem put_at (pre new : List UInt8) (k : Nat) (h : new.length ≤ k) : (pre ++ List.replicate k (0 : UInt8)).take pre.length ++ new ++ (pre ++ List.replicate k (0 : UInt8)).drop (pre.length + new.length) = (pre ++ new) ++ List.replicate (k - new.length) 0 := by
  rw [List.take_left, List.drop_append]
  simp [List.drop_of_length_le]
end Go.Proofs.YtjdmggaeagnolaaGreat.V
/- []byte(s) of a string, written into: the row bears the mark of a conversion behind its cells. -/
set_option linter.unusedVariables false
set_option linter.unusedSimpArgs false
namespace Go.Proofs.YtjdmggaeagnolaaGreat.V
open Go Go.Proofs Go.RowKit
/-- A block known whole, with the mark of a conversion behind its cells. -/
def BlkB (w : World) (b : Nat) (cs : List Value) (t : TypeId) : Prop := w.heap[b]? = some (.cells cs.toArray t (cs.length, cs.length + 1))
variable {w w' : World} {b : Nat} {cs : List Value} {t : TypeId}
theorem BlkB.lt (h : BlkB w b cs t) : b < w.heap.size := (Array.getElem?_eq_some_iff.1 h).1
theorem BlkB.cell (h : BlkB w b cs t) (o : Nat) : w.cell? ⟨b, o, none⟩ = cs[o]? := by simp [World.cell?, show w.heap[b]? = _ from h]
theorem BlkB.frozen (h : BlkB w b cs t) {o : Nat} (ho : o < cs.length) : w.frozen? ⟨b, o, none⟩ = false := by
  simp [World.frozen?, show w.heap[b]? = _ from h]
  omega
theorem BlkB.ext (h : BlkB w b cs t) (he : Ext w w') : BlkB w' b cs t := he.heap h
theorem BlkB.set (h : BlkB w b cs t) (o : Nat) (v : Value) : BlkB (w.setCell ⟨b, o, none⟩ v) b (cs.set o v) t := by
  obtain ⟨hlt, hk⟩ := Array.getElem?_eq_some_iff.1 h
  show (w.heap.modify b _)[b]? = _
  rw [Array.getElem?_eq_getElem (by rw [Array.size_modify]; exact hlt), Array.getElem_modify_self, hk]
  simp
theorem BlkB.setCells_from : ∀ (vs : List Value) (i : Nat) (w : World) (cs : List Value), BlkB w b cs t → i + vs.length ≤ cs.length → BlkB (setCells w ⟨b, 0, none⟩ i vs) b (cs.take i ++ vs ++ cs.drop (i + vs.length)) t
  | [], i, w, cs, h, _ => by simpa [setCells] using h
  | v :: r, i, w, cs, h, hl => by
    simp only [setCells, add_mk, Nat.zero_add]
    have h1 := h.set i v
    have h2 := BlkB.setCells_from r (i + 1) _ _ h1 (by simp only [List.length_set, List.length_cons] at hl ⊢; omega)
    have hlen : i < cs.length := by simp only [List.length_cons] at hl; omega
    have e : (cs.set i v).take (i + 1) ++ r ++ (cs.set i v).drop (i + 1 + r.length) = cs.take i ++ (v :: r) ++ cs.drop (i + (v :: r).length) := by
      rw [List.drop_set_of_lt (by omega), List.take_set, List.set_eq_take_append_cons_drop]
      have : i < (cs.take (i + 1)).length := by simp; omega
      rw [if_pos this]
      simp [List.take_take, Nat.min_eq_left (show i ≤ i + 1 by omega), Nat.add_comm, Nat.add_left_comm]
    rw [e] at h2
    exact h2
theorem BlkB.storable_from (h : BlkB w b cs t) : ∀ (vs : List Value) (i : Nat), i + vs.length ≤ cs.length → (∀ v ∈ vs, v.oneCell' = true) → Storable w ⟨b, 0, none⟩ i vs
  | [], _, _, _ => trivial
  | v :: r, i, hl, ho => by
    simp only [List.length_cons] at hl
    refine ⟨ho v List.mem_cons_self, ?_, ?_, BlkB.storable_from h r (i + 1) (by omega) (fun x hx => ho x (List.mem_cons_of_mem _ hx))⟩
    · rw [add_mk, h.cell]; exact ⟨_, List.getElem?_eq_getElem (by omega)⟩
    · rw [add_mk]; exact h.frozen (by omega)
theorem BlkB.sl {n : Nat} {vs rest : List Value} (h : BlkB w b (vs ++ rest) t) (hn : vs.length = n) (hm : n ≤ 9223372036854775807) : Sl w (some ⟨b, 0, none⟩) n vs := by
  refine ⟨hn, hm, fun _ => ⟨_, rfl, fun j v hj => ?_⟩⟩
  rw [add_mk, h.cell, Nat.zero_add, List.getElem?_append_left (List.getElem?_eq_some_iff.1 hj).1]
  exact hj
section
variable {P : Program} {e : TypeId} {z : Value} {bytes : Nat} {src dst : TypeId}
end
end Go.Proofs.YtjdmggaeagnolaaGreat.V
/- The shallow forms of the functions, by a program of mine (wip/tool/gen.py). -/
set_option linter.unusedVariables false
set_option maxRecDepth 100000
namespace Go.Proofs.YtjdmggaeagnolaaGreat.V
open Go Go.Proofs
theorem mixed : Tryz.prog.follows .mixedOrders = true := by kernel_rfl

/-- shadowbook/shadowbooklaw13.SpaceNames -/
def an3 : Ann := (.seq .nil (.seq (.seq .nil (.cond (.seq .nil .nil) .nil)) (.seq .nil (.seq .nil (.seq .nil (.seq .nil (.seq .nil (.seq .nil (.seq .nil (.seq .nil (.seq .nil (.seq .nil (.seq .nil (.seq .nil (.seq .nil (.seq .nil (.seq .nil (.seq .nil (.seq .nil (.seq .nil (.seq .nil (.seq .nil (.join [(34, .sh (.one .bool))] [2, 3, 22, 24, 28, 31, 1000000] .nil (.join [(35, .sh (.one .bool))] [2, 3, 22, 34, 1000000] .nil (.seq .nil (.seq (.seq .nil (.block (.loop [(36, .sh (.one (.int .i64))), (37, .sh (.one (.int .i64)))] [2, 3, 22, 34, 35, 1000000] (.seq (.seq .nil (.cond .nil .nil)) (.seq (.block (.seq .nil (.seq .nil (.cond .nil .nil)))) .nil))))) (.seq .nil (.seq .nil (.join [(0, .sh (.one .bool))] [1000000] .nil .nil)))))))))))))))))))))))))))))
def S3  (K : Value → WP) : WP := 
  callW Tryz.prog 7 [] (.one (.one .bool)) fun (u1 : Bool) =>
  splitW (!u1) (K (.bool false)) <|
  callW Tryz.prog 9 [] (.one (.agg [(.int .i64), (.int .i64)])) fun (u2 : (Int × Int × Unit)) =>
  callW Tryz.prog 8 [(.agg #[(.int .i64 u2.1), (.int .i64 u2.2.1)])] (.many [(.one .ptr), (.one .ptr)]) fun (u3 : Option Addr × Option Addr × Unit) =>
  callW Tryz.prog 10 [(.pointer none)] (.many [(.one .ptr), (.one (.int .i64))]) fun (u4 : Option Addr × Int × Unit) =>
  callW Tryz.prog 9 [] (.one (.agg [(.int .i64), (.int .i64)])) fun (u5 : (Int × Int × Unit)) =>
  callW Tryz.prog 11 [(.agg #[(.int .i64 u5.1), (.int .i64 u5.2.1)])] (.many [(.one .ptr), (.one (.int .i64))]) fun (u6 : Option Addr × Int × Unit) =>
  callW Tryz.prog 12 [(.pointer u6.1)] (.many [(.one .ptr), (.one (.int .i64))]) fun (u7 : Option Addr × Int × Unit) =>
  callW Tryz.prog 11 [(.agg #[(.int .i64 (128 : Int)), (.int .i64 (1400 : Int))])] (.many [(.one .ptr), (.one (.int .i64))]) fun (u8 : Option Addr × Int × Unit) =>
  callW Tryz.prog 10 [(.pointer u8.1)] (.many [(.one .ptr), (.one (.int .i64))]) fun (u9 : Option Addr × Int × Unit) =>
  callW Tryz.prog 13 [(.pointer u3.2.1), (.agg #[(.int .u8 (2 : Int)), (.slice none 0 0), (.string ByteArray.empty)])] (.many [(.one (.int .u32)), (.one (.int .i64))]) fun (u10 : Int × Int × Unit) =>
  newW (.cells #[(.int .u32 (2 : Int))] 35) fun (r11 : Nat) =>
  callW Tryz.prog 13 [(.pointer u3.2.1), (.agg #[(.int .u8 (3 : Int)), (.slice (some (⟨r11, 0, none⟩ : Addr)) 1 1), (.string ByteArray.empty)])] (.many [(.one (.int .u32)), (.one (.int .i64))]) fun (u12 : Int × Int × Unit) =>
  newW (.cells #[(.int .u32 (5 : Int))] 35) fun (r13 : Nat) =>
  callW Tryz.prog 13 [(.pointer u3.2.1), (.agg #[(.int .u8 (3 : Int)), (.slice (some (⟨r13, 0, none⟩ : Addr)) 1 1), (.string ByteArray.empty)])] (.many [(.one (.int .u32)), (.one (.int .i64))]) fun (u14 : Int × Int × Unit) =>
  callW Tryz.prog 14 [(.string (ByteArray.mk #[97])), (.int .i64 (111 : Int))] (.one (.one .str)) fun (u15 : ByteArray) =>
  callW Tryz.prog 13 [(.pointer u3.2.1), (.agg #[(.int .u8 (3 : Int)), (.slice none 0 0), (.string u15)])] (.many [(.one (.int .u32)), (.one (.int .i64))]) fun (u16 : Int × Int × Unit) =>
  callW Tryz.prog 14 [(.string (ByteArray.mk #[97])), (.int .i64 (110 : Int))] (.one (.one .str)) fun (u17 : ByteArray) =>
  callW Tryz.prog 13 [(.pointer u3.2.1), (.agg #[(.int .u8 (3 : Int)), (.slice none 0 0), (.string u17)])] (.many [(.one (.int .u32)), (.one (.int .i64))]) fun (u18 : Int × Int × Unit) =>
  newW (.cells #[(.int .u32 u18.1)] 35) fun (r19 : Nat) =>
  callW Tryz.prog 13 [(.pointer u3.2.1), (.agg #[(.int .u8 (3 : Int)), (.slice (some (⟨r19, 0, none⟩ : Addr)) 1 1), (.string ByteArray.empty)])] (.many [(.one (.int .u32)), (.one (.int .i64))]) fun (u20 : Int × Int × Unit) =>
  callW Tryz.prog 15 [(.pointer u3.2.1)] (.one (.one (.int .i64))) fun (u21 : Int) =>
  callW Tryz.prog 15 [(.pointer u3.2.1)] (.one (.one (.int .i64))) fun (u22 : Int) =>
  callW Tryz.prog 13 [(.pointer u3.2.1), (.agg #[(.int .u8 (5 : Int)), (.slice none 0 0), (.string ByteArray.empty)])] (.many [(.one (.int .u32)), (.one (.int .i64))]) fun (u23 : Int × Int × Unit) =>
  callW Tryz.prog 16 [(.pointer u3.2.1), (.int .u32 u20.1)] (.one (.one (.int .i64))) fun (u24 : Int) =>
  callW Tryz.prog 17 [(.pointer u3.2.1)] (.one (.one (.int .i64))) fun (u25 : Int) =>
  callW Tryz.prog 18 [(.pointer u3.2.1)] (.one (.one (.int .i64))) fun (u26 : Int) =>
  callW Tryz.prog 19 [(.pointer u3.2.1)] (.one (.one (.int .i64))) fun (u27 : Int) =>
  joinW (Bool × Unit) (fun (J28 : (Bool × Unit) → WP) =>
  splitW (u4.2.1 == (1 : Int)) (splitW (u7.2.1 == (10 : Int)) (splitW (u9.2.1 == (3 : Int)) (splitW (u10.2.1 == (2 : Int)) (splitW (u12.2.1 == (2 : Int)) (splitW (u14.2.1 == (8 : Int)) (splitW (u16.2.1 == (3 : Int)) (splitW (u18.2.1 == (0 : Int)) (splitW (u21 == (0 : Int)) (splitW (u22 == (8 : Int)) (splitW (u24 == (0 : Int)) (splitW (u26 == (0 : Int)) (J28 ((u27 == (8 : Int)), ())) <| J28 (false, ())) <| J28 (false, ())) <| J28 (false, ())) <| J28 (false, ())) <| J28 (false, ())) <| J28 (false, ())) <| J28 (false, ())) <| J28 (false, ())) <| J28 (false, ())) <| J28 (false, ())) <| J28 (false, ())) <| J28 (false, ())) fun (y29 : Bool × Unit) =>
  joinW (Bool × Unit) (fun (J30 : (Bool × Unit) → WP) =>
  splitW (u18.1 == (3 : Int)) (splitW (u20.1 == (4 : Int)) (splitW (u23.1 == (5 : Int)) (splitW (u25 == (6 : Int)) (callW Tryz.prog 17 [(.pointer u3.2.1)] (.one (.one (.int .i64))) fun (u32 : Int) =>
  splitW (u32 == (7 : Int)) (callW Tryz.prog 20 [(.pointer u3.2.1), (.int .u32 u18.1)] (.one (.one (.int .i64))) fun (u33 : Int) =>
  splitW (u33 == (1 : Int)) (callW Tryz.prog 20 [(.pointer u3.2.1), (.int .u32 u20.1)] (.one (.one (.int .i64))) fun (u34 : Int) =>
  splitW (u34 == (1 : Int)) (callW Tryz.prog 20 [(.pointer u3.2.1), (.int .u32 u23.1)] (.one (.one (.int .i64))) fun (u35 : Int) =>
  splitW (u35 == (0 : Int)) (callW Tryz.prog 20 [(.pointer u3.2.1), (.int .u32 (2 : Int))] (.one (.one (.int .i64))) fun (u36 : Int) => J30 ((u36 == (1 : Int)), ())) <| J30 (false, ())) <| J30 (false, ())) <| J30 (false, ())) <| J30 (false, ())) <| J30 (false, ())) <| J30 (false, ())) <| J30 (false, ())) <| J30 (false, ())) fun (y31 : Bool × Unit) =>
  loopW (Int × Int × Unit) ((0 : Int), (0 : Int), ()) fun (y38 : Int × Int × Unit) (I37 : (Int × Int × Unit) → WP) =>
  splitW (decide (y38.2.1 < (20 : Int))) (callW Tryz.prog 13 [(.pointer u3.2.1), (.agg #[(.int .u8 (5 : Int)), (.slice none 0 0), (.string ByteArray.empty)])] (.many [(.one (.int .u32)), (.one (.int .i64))]) fun (u39 : Int × Int × Unit) =>
  splitW (u39.2.1 == (9 : Int)) (I37 ((IntKind.wrap .i64 (y38.1 + (1 : Int))), (IntKind.wrap .i64 (y38.2.1 + (1 : Int))), ())) <| I37 (y38.1, (IntKind.wrap .i64 (y38.2.1 + (1 : Int))), ())) <|
  callW Tryz.prog 21 [(.pointer u3.2.1)] (.one (.one (.int .i64))) fun (u40 : Int) =>
  callW Tryz.prog 22 [(.pointer u3.2.1), (.int .u32 u18.1)] (.many [(.agg [(.int .u8), .slc, .str]), (.one (.int .i64))]) fun (u41 : (Int × (Option Addr × Nat × Nat) × ByteArray × Unit) × Int × Unit) =>
  newW (.cells #[(.int .u8 (0 : Int)), (.slice none 0 0), (.string ByteArray.empty)] 40) fun (r42 : Nat) =>
  guardW ((#[(.int .u8 u41.1.1), (.slice u41.1.2.1.1 u41.1.2.1.2.1 u41.1.2.1.2.2), (.string u41.1.2.2.1)] : Array Value).size = 3) <|
  stAW (⟨r42, 0, none⟩ : Addr) [(.int .u8 u41.1.1), (.slice u41.1.2.1.1 u41.1.2.1.2.1 u41.1.2.1.2.2), (.string u41.1.2.2.1)] <|
  joinW (Bool × Unit) (fun (J43 : (Bool × Unit) → WP) =>
  splitW y29.1 (splitW y31.1 (splitW (y38.1 == (14 : Int)) (splitW (u40 == (0 : Int)) (splitW (u41.2.1 == (8 : Int)) (callW Tryz.prog 17 [(.pointer u3.2.1)] (.one (.one (.int .i64))) fun (u45 : Int) =>
  splitW (u45 == (9 : Int)) (callW Tryz.prog 23 [(.pointer u3.2.1), (.int .i64 (0 : Int))] (.one (.one (.int .i64))) fun (u46 : Int) =>
  splitW (u46 == (110 : Int)) (callW Tryz.prog 23 [(.pointer u3.2.1), (.int .i64 (27 : Int))] (.one (.one (.int .i64))) fun (u47 : Int) =>
  splitW (u47 == (2 : Int)) (callW Tryz.prog 23 [(.pointer u3.2.1), (.int .i64 (28 : Int))] (.one (.one (.int .i64))) fun (u48 : Int) =>
  splitW (u48 == (0 : Int)) (callW Tryz.prog 23 [(.pointer u3.2.1), (.int .i64 (-1 : Int))] (.one (.one (.int .i64))) fun (u49 : Int) =>
  splitW (u49 == (0 : Int)) (callW Tryz.prog 17 [(.pointer none)] (.one (.one (.int .i64))) fun (u50 : Int) =>
  splitW (u50 == (0 : Int)) (callW Tryz.prog 24 [(.pointer none), (.int .u32 (0 : Int))] (.one (.one (.int .i64))) fun (u51 : Int) =>
  splitW (u51 == (1 : Int)) (callW Tryz.prog 16 [(.pointer none), (.int .u32 (2 : Int))] (.one (.one (.int .i64))) fun (u52 : Int) =>
  splitW (u52 == (1 : Int)) (callW Tryz.prog 24 [(.pointer u3.2.1), (.int .u32 (99 : Int))] (.one (.one (.int .i64))) fun (u53 : Int) =>
  splitW (u53 == (2 : Int)) (callW Tryz.prog 24 [(.pointer u3.2.1), (.int .u32 (5 : Int))] (.one (.one (.int .i64))) fun (u54 : Int) =>
  splitW (u54 == (8 : Int)) (callW Tryz.prog 25 [(.pointer u3.2.1), (.int .u32 (2 : Int))] (.one (.one (.int .i64))) fun (u55 : Int) =>
  splitW (u55 == (2 : Int)) (callW Tryz.prog 26 [(.pointer u3.2.1)] (.one (.one (.int .u32))) fun (u56 : Int) =>
  splitW (u56 == (0 : Int)) (callW Tryz.prog 27 [(.pointer u3.2.1)] (.one (.one (.int .u64))) fun (u57 : Int) => J43 ((u57 == (1 : Int)), ())) <| J43 (false, ())) <| J43 (false, ())) <| J43 (false, ())) <| J43 (false, ())) <| J43 (false, ())) <| J43 (false, ())) <| J43 (false, ())) <| J43 (false, ())) <| J43 (false, ())) <| J43 (false, ())) <| J43 (false, ())) <| J43 (false, ())) <| J43 (false, ())) <| J43 (false, ())) <| J43 (false, ())) <| J43 (false, ())) <| J43 (false, ())) fun (y44 : Bool × Unit) => K (.bool y44.1)
theorem eq3  (K : Value → WP) : bodyW Tryz.prog Tryz.f3 an3 false [] K = S3  K := by kernel_rfl
theorem calls3  {K : Value → WP} {w : World} (h : S3  K w) : Calls Tryz.prog 3 #[] w (Ret K) := callsR_of_bodyW mixed Tryz.func3 (of_decide_eq_true (by kernel_rfl)) (by rw [eq3]; exact h)

/-- shadowbook/shadowbooklaw13.SpaceKeeps -/
def an4 : Ann := (.seq .nil (.seq (.seq .nil (.cond (.seq .nil .nil) .nil)) (.seq (.seq .nil (.cond (.seq .nil .nil) .nil)) (.seq .nil (.seq (.seq .nil (.cond (.seq .nil .nil) .nil)) (.seq (.seq .nil (.block (.loop [(8, .sh (.one (.int .i64)))] [1, 2, 7, 1000000] (.seq (.seq .nil (.cond .nil .nil)) (.seq (.block .nil) .nil))))) (.seq .nil (.join [(9, .sh (.one .slc))] [2, 7, 1000000] (.seq .nil (.block (.loop [(9, .sh (.one .slc)), (10, .sh (.one (.int .i64)))] [2, 7, 1000000] (.seq (.seq .nil (.cond .nil .nil)) (.seq (.block (.seq .nil (.seq (.seq .nil (.cond (.seq (.seq .nil (.cond (.seq .nil .nil) .nil)) .nil) .nil)) .nil))) .nil))))) (.seq (.seq .nil (.cond (.seq .nil .nil) .nil)) (.seq (.seq .nil (.block (.loop [(13, .sh (.one (.int .i64)))] [2, 7, 9, 1000000] (.seq (.seq .nil (.cond .nil .nil)) (.seq (.block .nil) .nil))))) (.seq .nil (.seq (.seq .nil (.cond (.seq .nil .nil) .nil)) (.seq (.seq .nil (.block (.loop [(14, .sh (.one (.int .i64)))] [2, 7, 9, 1000000] (.seq (.seq .nil (.cond .nil .nil)) (.seq (.block (.seq .nil (.seq .nil (.cond (.seq .nil .nil) .nil)))) .nil))))) (.seq .nil .nil))))))))))))))
def S4 (x0_0 : Int) (x0_1 : Int) (a1 : Option Addr) (n1 c1 : Nat) (x2 : Int) (K : Value → WP) : WP := 
  newW (.cells #[(.int .i64 x0_0), (.int .i64 x0_1)] 28) fun (r1 : Nat) =>
  callW Tryz.prog 7 [] (.one (.one .bool)) fun (u2 : Bool) =>
  splitW (!u2) (K (.bool false)) <|
  ldAW [(.int .i64), (.int .i64)] (⟨r1, 0, none⟩ : Addr) fun (u3 : (Int × Int × Unit)) =>
  callW Tryz.prog 28 [(.agg #[(.int .i64 u3.1), (.int .i64 u3.2.1)])] (.one (.one .bool)) fun (u4 : Bool) =>
  splitW (!u4) (K (.bool true)) <|
  callW Tryz.prog 29 [(.slice a1 n1 c1)] (.one (.one .bool)) fun (u5 : Bool) =>
  splitW (!u5) (K (.bool true)) <|
  ldAW [(.int .i64), (.int .i64)] (⟨r1, 0, none⟩ : Addr) fun (u6 : (Int × Int × Unit)) =>
  callW Tryz.prog 30 [(.agg #[(.int .i64 u6.1), (.int .i64 u6.2.1)])] (.one (.one .ptr)) fun (u7 : Option Addr) =>
  splitW (Option.isNone u7) (K (.bool true)) <|
  loopW (Int × Unit) ((0 : Int), ()) fun (y9 : Int × Unit) (I8 : (Int × Unit) → WP) =>
  splitW (decide (y9.1 < ((n1 : Nat) : Int))) (guardW (0 ≤ y9.1 ∧ y9.1 < ((n1 : Nat) : Int)) <|
  ptrW a1 fun (p10 : Addr) =>
  ldAW [(.int .i64), (.int .u8), (.int .i64), (.int .i64), .str] (p10.add (Int.toNat y9.1 * 5)) fun (u11 : (Int × Int × Int × Int × ByteArray × Unit)) =>
  callW Tryz.prog 31 [(.pointer u7), (.agg #[(.int .i64 u11.1), (.int .u8 u11.2.1), (.int .i64 u11.2.2.1), (.int .i64 u11.2.2.2.1), (.string u11.2.2.2.2.1)])] (.many [(.one (.int .u32)), (.one (.int .i64))]) fun (u12 : Int × Int × Unit) => I8 ((IntKind.wrap .i64 (y9.1 + (1 : Int))), ())) <|
  joinW ((Option Addr × Nat × Nat) × Unit) (fun (J13 : ((Option Addr × Nat × Nat) × Unit) → WP) =>
  loopW ((Option Addr × Nat × Nat) × Int × Unit) ((none, 0, 0), (0 : Int), ()) fun (y16 : (Option Addr × Nat × Nat) × Int × Unit) (I15 : ((Option Addr × Nat × Nat) × Int × Unit) → WP) =>
  splitW (decide (y16.2.1 < (50 : Int))) (drewW <|
  ptrW u7 fun (p17 : Addr) =>
  ldW .ptr (p17.add 1) fun (u18 : Option Addr) =>
  newW (.cells #[(.int .u8 x2)] 5) fun (r19 : Nat) =>
  heldW [[((p17.add 1), (.pointer u18))]] <|
  runW Tryz.prog (Go.convert 62 9 (.slice (some (⟨r19, 0, none⟩ : Addr)) 1 1)) .str fun (u20 : ByteArray) =>
  heldW [[((p17.add 1), (.pointer u18))]] <|
  callW Tryz.prog 13 [(.pointer u18), (.agg #[(.int .u8 (IntKind.wrap .u8 ((3 : Int) + (Int.tmod x2 (200 : Int))))), (.slice none 0 0), (.string u20)])] (.many [(.one (.int .u32)), (.one (.int .i64))]) fun (u21 : Int × Int × Unit) =>
  splitW (u21.2.1 != (0 : Int)) (splitW (u21.2.1 != (9 : Int)) (K (.bool false)) <| J13 ((y16.1.1, y16.1.2.1, y16.1.2.2), ())) <|
  newW (.cells #[(.int .u32 u21.1)] 35) fun (r22 : Nat) =>
  runW Tryz.prog (Builtin.append_ #[38, 38] 38 #[(.slice y16.1.1 y16.1.2.1 y16.1.2.2), (.slice (some (⟨r22, 0, none⟩ : Addr)) 1 1)]) .slc fun (u23 : (Option Addr × Nat × Nat)) => I15 ((u23.1, u23.2.1, u23.2.2), (IntKind.wrap .i64 (y16.2.1 + (1 : Int))), ())) <| J13 ((y16.1.1, y16.1.2.1, y16.1.2.2), ())) fun (y14 : (Option Addr × Nat × Nat) × Unit) =>
  ptrW u7 fun (p24 : Addr) =>
  ldW .ptr (p24.add 1) fun (u25 : Option Addr) =>
  callW Tryz.prog 24 [(.pointer u25), (.int .u32 (0 : Int))] (.one (.one (.int .i64))) fun (u26 : Int) =>
  splitW (u26 != (0 : Int)) (K (.bool false)) <|
  splitW (decide (((y14.1.2.1 : Nat) : Int) > (45 : Int))) (K (.bool false)) <|
  loopW (Int × Unit) ((0 : Int), ()) fun (y28 : Int × Unit) (I27 : (Int × Unit) → WP) =>
  splitW (decide (y28.1 < ((y14.1.2.1 : Nat) : Int))) (drewW <|
  ptrW u7 fun (p29 : Addr) =>
  ldW .ptr (p29.add 1) fun (u30 : Option Addr) =>
  guardW (0 ≤ y28.1 ∧ y28.1 < ((y14.1.2.1 : Nat) : Int)) <|
  ptrW y14.1.1 fun (p31 : Addr) =>
  ldW (.int .u32) (p31.add (Int.toNat y28.1 * 1)) fun (u32 : Int) =>
  callW Tryz.prog 16 [(.pointer u30), (.int .u32 u32)] (.one (.one (.int .i64))) fun (u33 : Int) => I27 ((IntKind.wrap .i64 (y28.1 + (1 : Int))), ())) <|
  ptrW u7 fun (p34 : Addr) =>
  ldW .ptr (p34.add 1) fun (u35 : Option Addr) =>
  callW Tryz.prog 13 [(.pointer u35), (.agg #[(.int .u8 (9 : Int)), (.slice none 0 0), (.string (ByteArray.mk #[108, 97, 116, 101, 114]))])] (.many [(.one (.int .u32)), (.one (.int .i64))]) fun (u36 : Int × Int × Unit) =>
  ptrW u7 fun (p37 : Addr) =>
  ldW .ptr (p37.add 1) fun (u38 : Option Addr) =>
  callW Tryz.prog 21 [(.pointer u38)] (.one (.one (.int .i64))) fun (u39 : Int) =>
  splitW (u39 != (0 : Int)) (K (.bool false)) <|
  loopW (Int × Unit) ((0 : Int), ()) fun (y41 : Int × Unit) (I40 : (Int × Unit) → WP) =>
  splitW (decide (y41.1 < ((y14.1.2.1 : Nat) : Int))) (drewW <|
  ptrW u7 fun (p42 : Addr) =>
  ldW .ptr (p42.add 1) fun (u43 : Option Addr) =>
  guardW (0 ≤ y41.1 ∧ y41.1 < ((y14.1.2.1 : Nat) : Int)) <|
  ptrW y14.1.1 fun (p44 : Addr) =>
  ldW (.int .u32) (p44.add (Int.toNat y41.1 * 1)) fun (u45 : Int) =>
  bothW (callW Tryz.prog 22 [(.pointer u43), (.int .u32 u45)] (.many [(.agg [(.int .u8), .slc, .str]), (.one (.int .i64))]) fun (u46 : (Int × (Option Addr × Nat × Nat) × ByteArray × Unit) × Int × Unit) =>
  newW (.cells #[(.int .u8 (0 : Int)), (.slice none 0 0), (.string ByteArray.empty)] 40) fun (r47 : Nat) =>
  heldW [[((p44.add (Int.toNat y41.1 * 1)), (.int .u32 u45))], [((p42.add 1), (.pointer u43))]] <|
  guardW ((#[(.int .u8 u46.1.1), (.slice u46.1.2.1.1 u46.1.2.1.2.1 u46.1.2.1.2.2), (.string u46.1.2.2.1)] : Array Value).size = 3) <|
  stAW (⟨r47, 0, none⟩ : Addr) [(.int .u8 u46.1.1), (.slice u46.1.2.1.1 u46.1.2.1.2.1 u46.1.2.1.2.2), (.string u46.1.2.2.1)] <|
  drewW <|
  splitW (u46.2.1 != (0 : Int)) (K (.bool false)) <|
  ldW .str ((⟨r47, 0, none⟩ : Addr).add 2) fun (u48 : ByteArray) =>
  newW (.cells #[(.int .u8 x2)] 5) fun (r49 : Nat) =>
  heldW [[(((⟨r47, 0, none⟩ : Addr).add 2), (.string u48))]] <|
  runW Tryz.prog (Go.convert 62 9 (.slice (some (⟨r49, 0, none⟩ : Addr)) 1 1)) .str fun (u50 : ByteArray) =>
  heldW [[(((⟨r47, 0, none⟩ : Addr).add 2), (.string u48))]] <|
  splitW (!(u48.toList == u50.toList)) (K (.bool false)) <|
  ptrW u7 fun (p51 : Addr) =>
  ldW .ptr (p51.add 1) fun (u52 : Option Addr) =>
  guardW (0 ≤ y41.1 ∧ y41.1 < ((y14.1.2.1 : Nat) : Int)) <|
  ptrW y14.1.1 fun (p53 : Addr) =>
  ldW (.int .u32) (p53.add (Int.toNat y41.1 * 1)) fun (u54 : Int) =>
  callW Tryz.prog 20 [(.pointer u52), (.int .u32 u54)] (.one (.one (.int .i64))) fun (u55 : Int) =>
  splitW (u55 != (1 : Int)) (K (.bool false)) <| I40 ((IntKind.wrap .i64 (y41.1 + (1 : Int))), ())) <|
  newW (.cells #[(.int .u8 (0 : Int)), (.slice none 0 0), (.string ByteArray.empty)] 40) fun (r56 : Nat) =>
  heldW [[((p44.add (Int.toNat y41.1 * 1)), (.int .u32 u45))], [((p42.add 1), (.pointer u43))]] <|
  callW Tryz.prog 22 [(.pointer u43), (.int .u32 u45)] (.many [(.agg [(.int .u8), .slc, .str]), (.one (.int .i64))]) fun (u57 : (Int × (Option Addr × Nat × Nat) × ByteArray × Unit) × Int × Unit) =>
  guardW ((#[(.int .u8 u57.1.1), (.slice u57.1.2.1.1 u57.1.2.1.2.1 u57.1.2.1.2.2), (.string u57.1.2.2.1)] : Array Value).size = 3) <|
  stAW (⟨r56, 0, none⟩ : Addr) [(.int .u8 u57.1.1), (.slice u57.1.2.1.1 u57.1.2.1.2.1 u57.1.2.1.2.2), (.string u57.1.2.2.1)] <|
  drewW <|
  splitW (u57.2.1 != (0 : Int)) (K (.bool false)) <|
  ldW .str ((⟨r56, 0, none⟩ : Addr).add 2) fun (u58 : ByteArray) =>
  newW (.cells #[(.int .u8 x2)] 5) fun (r59 : Nat) =>
  heldW [[(((⟨r56, 0, none⟩ : Addr).add 2), (.string u58))]] <|
  runW Tryz.prog (Go.convert 62 9 (.slice (some (⟨r59, 0, none⟩ : Addr)) 1 1)) .str fun (u60 : ByteArray) =>
  heldW [[(((⟨r56, 0, none⟩ : Addr).add 2), (.string u58))]] <|
  splitW (!(u58.toList == u60.toList)) (K (.bool false)) <|
  ptrW u7 fun (p61 : Addr) =>
  ldW .ptr (p61.add 1) fun (u62 : Option Addr) =>
  guardW (0 ≤ y41.1 ∧ y41.1 < ((y14.1.2.1 : Nat) : Int)) <|
  ptrW y14.1.1 fun (p63 : Addr) =>
  ldW (.int .u32) (p63.add (Int.toNat y41.1 * 1)) fun (u64 : Int) =>
  callW Tryz.prog 20 [(.pointer u62), (.int .u32 u64)] (.one (.one (.int .i64))) fun (u65 : Int) =>
  splitW (u65 != (1 : Int)) (K (.bool false)) <| I40 ((IntKind.wrap .i64 (y41.1 + (1 : Int))), ())) <| K (.bool true)
theorem eq4 (x0_0 : Int) (x0_1 : Int) (a1 : Option Addr) (n1 c1 : Nat) (x2 : Int) (K : Value → WP) : bodyW Tryz.prog Tryz.f4 an4 false [(.agg #[(.int .i64 x0_0), (.int .i64 x0_1)]), (.slice a1 n1 c1), (.int .u8 x2)] K = S4 x0_0 x0_1 a1 n1 c1 x2 K := by kernel_rfl
theorem calls4 (x0_0 : Int) (x0_1 : Int) (a1 : Option Addr) (n1 c1 : Nat) (x2 : Int) {K : Value → WP} {w : World} (h : S4 x0_0 x0_1 a1 n1 c1 x2 K w) : Calls Tryz.prog 4 #[(.agg #[(.int .i64 x0_0), (.int .i64 x0_1)]), (.slice a1 n1 c1), (.int .u8 x2)] w (Ret K) := callsR_of_bodyW mixed Tryz.func4 (of_decide_eq_true (by kernel_rfl)) (by rw [eq4]; exact h)

/-- shadowbook/shadowbooklaw13.SpaceRefused -/
def an5 : Ann := (.seq .nil (.seq (.seq .nil (.cond (.seq .nil .nil) .nil)) (.seq (.seq .nil (.cond (.seq .nil .nil) .nil)) (.seq .nil (.seq (.seq .nil (.cond (.seq .nil .nil) .nil)) (.seq (.seq .nil (.block (.loop [(10, .sh (.one (.int .i64)))] [1, 3, 6, 9, 1000000] (.seq (.seq .nil (.cond .nil .nil)) (.seq (.block .nil) .nil))))) (.seq .nil (.seq .nil (.seq .nil (.seq (.seq .nil (.block (.loop [(15, .sh (.one .bool)), (16, .sh (.one (.int .i64)))] [3, 6, 9, 11, 12, 13, 14, 1000000] (.seq (.seq .nil (.cond .nil .nil)) (.seq (.block .nil) .nil))))) (.join [] [3, 9, 11, 12, 13, 14, 1000000] (.join [(118, .sh (.one .bool))] [3, 6, 9, 11, 12, 13, 14, 1000000] .nil (.cond (.seq .nil (.seq .nil (.cond (.seq .nil .nil) .nil))) .nil)) (.join [] [3, 9, 11, 12, 13, 14, 1000000] (.seq .nil (.cond (.seq .nil (.seq .nil (.seq (.seq .nil (.cond (.seq .nil .nil) .nil)) (.seq .nil (.cond (.seq .nil .nil) .nil))))) .nil)) (.seq .nil .nil)))))))))))))
def S5 (x0_0 : Int) (x0_1 : Int) (a1 : Option Addr) (n1 c1 : Nat) (x2_0 : Int) (a2_1 : Option Addr) (n2_1 c2_1 : Nat) (x2_2 : ByteArray) (x3 : Int) (K : Value → WP) : WP := 
  newW (.cells #[(.int .i64 x0_0), (.int .i64 x0_1)] 28) fun (r1 : Nat) =>
  newW (.cells #[(.int .u8 x2_0), (.slice a2_1 n2_1 c2_1), (.string x2_2)] 40) fun (r2 : Nat) =>
  callW Tryz.prog 7 [] (.one (.one .bool)) fun (u3 : Bool) =>
  splitW (!u3) (K (.bool false)) <|
  ldAW [(.int .i64), (.int .i64)] (⟨r1, 0, none⟩ : Addr) fun (u4 : (Int × Int × Unit)) =>
  callW Tryz.prog 28 [(.agg #[(.int .i64 u4.1), (.int .i64 u4.2.1)])] (.one (.one .bool)) fun (u5 : Bool) =>
  splitW (!u5) (K (.bool true)) <|
  callW Tryz.prog 29 [(.slice a1 n1 c1)] (.one (.one .bool)) fun (u6 : Bool) =>
  splitW (!u6) (K (.bool true)) <|
  ldW .slc ((⟨r2, 0, none⟩ : Addr).add 1) fun (u7 : (Option Addr × Nat × Nat)) =>
  splitW (decide (((u7.2.1 : Nat) : Int) > (40 : Int))) (K (.bool true)) <|
  ldW .str ((⟨r2, 0, none⟩ : Addr).add 2) fun (u8 : ByteArray) =>
  splitW (decide (((u8.size : Nat) : Int) > (600 : Int))) (K (.bool true)) <|
  ldAW [(.int .i64), (.int .i64)] (⟨r1, 0, none⟩ : Addr) fun (u9 : (Int × Int × Unit)) =>
  callW Tryz.prog 30 [(.agg #[(.int .i64 u9.1), (.int .i64 u9.2.1)])] (.one (.one .ptr)) fun (u10 : Option Addr) =>
  splitW (Option.isNone u10) (K (.bool true)) <|
  loopW (Int × Unit) ((0 : Int), ()) fun (y12 : Int × Unit) (I11 : (Int × Unit) → WP) =>
  splitW (decide (y12.1 < ((n1 : Nat) : Int))) (guardW (0 ≤ y12.1 ∧ y12.1 < ((n1 : Nat) : Int)) <|
  ptrW a1 fun (p13 : Addr) =>
  ldAW [(.int .i64), (.int .u8), (.int .i64), (.int .i64), .str] (p13.add (Int.toNat y12.1 * 5)) fun (u14 : (Int × Int × Int × Int × ByteArray × Unit)) =>
  callW Tryz.prog 31 [(.pointer u10), (.agg #[(.int .i64 u14.1), (.int .u8 u14.2.1), (.int .i64 u14.2.2.1), (.int .i64 u14.2.2.2.1), (.string u14.2.2.2.2.1)])] (.many [(.one (.int .u32)), (.one (.int .i64))]) fun (u15 : Int × Int × Unit) => I11 ((IntKind.wrap .i64 (y12.1 + (1 : Int))), ())) <|
  drewW <|
  ptrW u10 fun (p16 : Addr) =>
  ldW .ptr (p16.add 1) fun (u17 : Option Addr) =>
  ptrW u10 fun (p18 : Addr) =>
  ldW .ptr (p18.add 1) fun (u19 : Option Addr) =>
  callW Tryz.prog 20 [(.pointer u17), (.int .u32 x3)] (.one (.one (.int .i64))) fun (u20 : Int) =>
  heldW [[((p18.add 1), (.pointer u19))]] <|
  callW Tryz.prog 17 [(.pointer u19)] (.one (.one (.int .i64))) fun (u21 : Int) =>
  drewW <|
  ptrW u10 fun (p22 : Addr) =>
  ldW .ptr p22 fun (u23 : Option Addr) =>
  ptrW u10 fun (p24 : Addr) =>
  ldW .ptr p24 fun (u25 : Option Addr) =>
  callW Tryz.prog 32 [(.pointer u23)] (.one (.one .str)) fun (u26 : ByteArray) =>
  heldW [[(p24, (.pointer u25))]] <|
  callW Tryz.prog 33 [(.pointer u25)] (.one (.one .slc)) fun (u27 : (Option Addr × Nat × Nat)) =>
  loopW (Bool × Int × Unit) (false, (0 : Int), ()) fun (y29 : Bool × Int × Unit) (I28 : (Bool × Int × Unit) → WP) =>
  ldW .slc ((⟨r2, 0, none⟩ : Addr).add 1) fun (u30 : (Option Addr × Nat × Nat)) =>
  splitW (decide (y29.2.1 < ((u30.2.1 : Nat) : Int))) (drewW <|
  splitW y29.1 (I28 (true, (IntKind.wrap .i64 (y29.2.1 + (1 : Int))), ())) <|
  ptrW u10 fun (p31 : Addr) =>
  ldW .ptr (p31.add 1) fun (u32 : Option Addr) =>
  ldW .slc ((⟨r2, 0, none⟩ : Addr).add 1) fun (u33 : (Option Addr × Nat × Nat)) =>
  guardW (0 ≤ y29.2.1 ∧ y29.2.1 < ((u33.2.1 : Nat) : Int)) <|
  ptrW u33.1 fun (p34 : Addr) =>
  ldW (.int .u32) (p34.add (Int.toNat y29.2.1 * 1)) fun (u35 : Int) =>
  callW Tryz.prog 20 [(.pointer u32), (.int .u32 u35)] (.one (.one (.int .i64))) fun (u36 : Int) =>
  splitW (u36 == (0 : Int)) (I28 (true, (IntKind.wrap .i64 (y29.2.1 + (1 : Int))), ())) <|
  ldW .slc ((⟨r2, 0, none⟩ : Addr).add 1) fun (u37 : (Option Addr × Nat × Nat)) =>
  guardW (0 ≤ y29.2.1 ∧ y29.2.1 < ((u37.2.1 : Nat) : Int)) <|
  ptrW u37.1 fun (p38 : Addr) =>
  ldW (.int .u32) (p38.add (Int.toNat y29.2.1 * 1)) fun (u39 : Int) => I28 ((decide (u39 < (2 : Int))), (IntKind.wrap .i64 (y29.2.1 + (1 : Int))), ())) <|
  joinW (Unit) (fun (J40 : (Unit) → WP) =>
  joinW (Bool × Unit) (fun (J42 : (Bool × Unit) → WP) =>
  splitW y29.1 (J42 (true, ())) <|
  ldW (.int .u8) (⟨r2, 0, none⟩ : Addr) fun (u44 : Int) => J42 ((decide (u44 < (3 : Int))), ())) fun (y43 : Bool × Unit) =>
  splitW y43.1 (drewW <|
  ptrW u10 fun (p45 : Addr) =>
  ldW .ptr (p45.add 1) fun (u46 : Option Addr) =>
  ldAW [(.int .u8), .slc, .str] (⟨r2, 0, none⟩ : Addr) fun (u47 : (Int × (Option Addr × Nat × Nat) × ByteArray × Unit)) =>
  callW Tryz.prog 13 [(.pointer u46), (.agg #[(.int .u8 u47.1), (.slice u47.2.1.1 u47.2.1.2.1 u47.2.1.2.2), (.string u47.2.2.1)])] (.many [(.one (.int .u32)), (.one (.int .i64))]) fun (u48 : Int × Int × Unit) =>
  splitW (u48.2.1 != (2 : Int)) (splitW (u48.2.1 != (8 : Int)) (K (.bool false)) <| J40 ()) <| J40 ()) <| J40 ()) fun (y41 : Unit) =>
  joinW (Unit) (fun (J49 : (Unit) → WP) =>
  splitW (u20 == (0 : Int)) (ptrW u10 fun (p51 : Addr) =>
  ldW .ptr (p51.add 1) fun (u52 : Option Addr) =>
  callW Tryz.prog 22 [(.pointer u52), (.int .u32 x3)] (.many [(.agg [(.int .u8), .slc, .str]), (.one (.int .i64))]) fun (u53 : (Int × (Option Addr × Nat × Nat) × ByteArray × Unit) × Int × Unit) =>
  newW (.cells #[(.int .u8 (0 : Int)), (.slice none 0 0), (.string ByteArray.empty)] 40) fun (r54 : Nat) =>
  guardW ((#[(.int .u8 u53.1.1), (.slice u53.1.2.1.1 u53.1.2.1.2.1 u53.1.2.1.2.2), (.string u53.1.2.2.1)] : Array Value).size = 3) <|
  stAW (⟨r54, 0, none⟩ : Addr) [(.int .u8 u53.1.1), (.slice u53.1.2.1.1 u53.1.2.1.2.1 u53.1.2.1.2.2), (.string u53.1.2.2.1)] <|
  drewW <|
  ptrW u10 fun (p55 : Addr) =>
  ldW .ptr (p55.add 1) fun (u56 : Option Addr) =>
  ptrW u10 fun (p57 : Addr) =>
  ldW .ptr (p57.add 1) fun (u58 : Option Addr) =>
  ptrW u10 fun (p59 : Addr) =>
  ldW .ptr (p59.add 1) fun (u60 : Option Addr) =>
  callW Tryz.prog 25 [(.pointer u56), (.int .u32 x3)] (.one (.one (.int .i64))) fun (u61 : Int) =>
  heldW [[((p59.add 1), (.pointer u60))], [((p57.add 1), (.pointer u58))]] <|
  callW Tryz.prog 16 [(.pointer u58), (.int .u32 x3)] (.one (.one (.int .i64))) fun (u62 : Int) =>
  heldW [[((p59.add 1), (.pointer u60))]] <|
  callW Tryz.prog 24 [(.pointer u60), (.int .u32 x3)] (.one (.one (.int .i64))) fun (u63 : Int) =>
  splitW (u53.2.1 == (0 : Int)) (K (.bool false)) <|
  splitW (u61 != u53.2.1) (K (.bool false)) <|
  splitW (u62 != u53.2.1) (K (.bool false)) <|
  splitW (x3 != (0 : Int)) (splitW (u63 != u53.2.1) (K (.bool false)) <|
  splitW (x3 == (0 : Int)) (K (.bool true)) <| J49 ()) <|
  splitW (x3 == (0 : Int)) (K (.bool true)) <| J49 ()) <| J49 ()) fun (y50 : Unit) =>
  ptrW u10 fun (p64 : Addr) =>
  ldW .ptr (p64.add 1) fun (u65 : Option Addr) =>
  callW Tryz.prog 17 [(.pointer u65)] (.one (.one (.int .i64))) fun (u66 : Int) =>
  splitW (u66 == u21) (ptrW u10 fun (p67 : Addr) =>
  ldW .ptr (p67.add 1) fun (u68 : Option Addr) =>
  callW Tryz.prog 20 [(.pointer u68), (.int .u32 x3)] (.one (.one (.int .i64))) fun (u69 : Int) =>
  splitW (u69 == u20) (ptrW u10 fun (p70 : Addr) =>
  ldW .ptr p70 fun (u71 : Option Addr) =>
  callW Tryz.prog 32 [(.pointer u71)] (.one (.one .str)) fun (u72 : ByteArray) =>
  splitW (u72.toList == u26.toList) (ptrW u10 fun (p73 : Addr) =>
  ldW .ptr p73 fun (u74 : Option Addr) =>
  callW Tryz.prog 33 [(.pointer u74)] (.one (.one .slc)) fun (u75 : (Option Addr × Nat × Nat)) => K (.bool (((u75.2.1 : Nat) : Int) == ((u27.2.1 : Nat) : Int)))) <| K (.bool false)) <| K (.bool false)) <| K (.bool false)
theorem eq5 (x0_0 : Int) (x0_1 : Int) (a1 : Option Addr) (n1 c1 : Nat) (x2_0 : Int) (a2_1 : Option Addr) (n2_1 c2_1 : Nat) (x2_2 : ByteArray) (x3 : Int) (K : Value → WP) : bodyW Tryz.prog Tryz.f5 an5 false [(.agg #[(.int .i64 x0_0), (.int .i64 x0_1)]), (.slice a1 n1 c1), (.agg #[(.int .u8 x2_0), (.slice a2_1 n2_1 c2_1), (.string x2_2)]), (.int .u32 x3)] K = S5 x0_0 x0_1 a1 n1 c1 x2_0 a2_1 n2_1 c2_1 x2_2 x3 K := by kernel_rfl
theorem calls5 (x0_0 : Int) (x0_1 : Int) (a1 : Option Addr) (n1 c1 : Nat) (x2_0 : Int) (a2_1 : Option Addr) (n2_1 c2_1 : Nat) (x2_2 : ByteArray) (x3 : Int) {K : Value → WP} {w : World} (h : S5 x0_0 x0_1 a1 n1 c1 x2_0 a2_1 n2_1 c2_1 x2_2 x3 K w) : Calls Tryz.prog 5 #[(.agg #[(.int .i64 x0_0), (.int .i64 x0_1)]), (.slice a1 n1 c1), (.agg #[(.int .u8 x2_0), (.slice a2_1 n2_1 c2_1), (.string x2_2)]), (.int .u32 x3)] w (Ret K) := callsR_of_bodyW mixed Tryz.func5 (of_decide_eq_true (by kernel_rfl)) (by rw [eq5]; exact h)

/-- shadowbook/shadowbooklaw13.lives -/
def an7 : Ann := (.seq .nil (.seq .nil (.seq (.seq .nil (.cond (.seq .nil .nil) .nil)) (.seq .nil (.seq .nil (.seq .nil (.seq .nil (.seq .nil (.seq (.seq .nil (.cond (.seq .nil .nil) .nil)) (.seq .nil (.seq .nil (.seq .nil (.seq .nil (.seq .nil .nil))))))))))))))
def S7  (K : Value → WP) : WP := 
  callW Tryz.prog 9 [] (.one (.agg [(.int .i64), (.int .i64)])) fun (u1 : (Int × Int × Unit)) =>
  callW Tryz.prog 8 [(.agg #[(.int .i64 u1.1), (.int .i64 u1.2.1)])] (.many [(.one .ptr), (.one .ptr)]) fun (u2 : Option Addr × Option Addr × Unit) =>
  splitW (Option.isNone u2.1) (K (.bool false)) <|
  splitW (Option.isNone u2.2.1) (K (.bool false)) <|
  callW Tryz.prog 17 [(.pointer u2.2.1)] (.one (.one (.int .i64))) fun (u3 : Int) =>
  callW Tryz.prog 13 [(.pointer u2.2.1), (.agg #[(.int .u8 (4 : Int)), (.slice none 0 0), (.string (ByteArray.mk #[120]))])] (.many [(.one (.int .u32)), (.one (.int .i64))]) fun (u4 : Int × Int × Unit) =>
  newW (.cells #[(.int .u32 u4.1)] 35) fun (r5 : Nat) =>
  callW Tryz.prog 13 [(.pointer u2.2.1), (.agg #[(.int .u8 (3 : Int)), (.slice (some (⟨r5, 0, none⟩ : Addr)) 1 1), (.string ByteArray.empty)])] (.many [(.one (.int .u32)), (.one (.int .i64))]) fun (u6 : Int × Int × Unit) =>
  callW Tryz.prog 24 [(.pointer u2.2.1), (.int .u32 u6.1)] (.one (.one (.int .i64))) fun (u7 : Int) =>
  callW Tryz.prog 12 [(.pointer u2.1)] (.many [(.one .ptr), (.one (.int .i64))]) fun (u8 : Option Addr × Int × Unit) =>
  splitW (u4.2.1 != (0 : Int)) (K (.bool false)) <|
  splitW (u6.2.1 != (0 : Int)) (K (.bool false)) <|
  splitW (u7 != (0 : Int)) (K (.bool false)) <|
  splitW (u8.2.1 != (0 : Int)) (K (.bool false)) <|
  splitW (Option.isNone u8.1) (K (.bool false)) <|
  callW Tryz.prog 26 [(.pointer u8.1)] (.one (.one (.int .u32))) fun (u9 : Int) =>
  callW Tryz.prog 22 [(.pointer u8.1), (.int .u32 u9)] (.many [(.agg [(.int .u8), .slc, .str]), (.one (.int .i64))]) fun (u10 : (Int × (Option Addr × Nat × Nat) × ByteArray × Unit) × Int × Unit) =>
  newW (.cells #[(.int .u8 (0 : Int)), (.slice none 0 0), (.string ByteArray.empty)] 40) fun (r11 : Nat) =>
  guardW ((#[(.int .u8 u10.1.1), (.slice u10.1.2.1.1 u10.1.2.1.2.1 u10.1.2.1.2.2), (.string u10.1.2.2.1)] : Array Value).size = 3) <|
  stAW (⟨r11, 0, none⟩ : Addr) [(.int .u8 u10.1.1), (.slice u10.1.2.1.1 u10.1.2.1.2.1 u10.1.2.1.2.2), (.string u10.1.2.2.1)] <|
  callW Tryz.prog 13 [(.pointer u8.1), (.agg #[(.int .u8 (4 : Int)), (.slice none 0 0), (.string ByteArray.empty)])] (.many [(.one (.int .u32)), (.one (.int .i64))]) fun (u12 : Int × Int × Unit) =>
  callW Tryz.prog 17 [(.pointer u8.1)] (.one (.one (.int .i64))) fun (u13 : Int) =>
  callW Tryz.prog 16 [(.pointer u8.1), (.int .u32 u12.1)] (.one (.one (.int .i64))) fun (u14 : Int) =>
  splitW (u3 == (9 : Int)) (splitW (u10.2.1 == (0 : Int)) (ldAW [(.int .u8), .slc, .str] (⟨r11, 0, none⟩ : Addr) fun (u15 : (Int × (Option Addr × Nat × Nat) × ByteArray × Unit)) =>
  newW (.cells #[(.int .u32 u4.1)] 35) fun (r16 : Nat) =>
  callW Tryz.prog 36 [(.agg #[(.int .u8 u15.1), (.slice u15.2.1.1 u15.2.1.2.1 u15.2.1.2.2), (.string u15.2.2.1)]), (.agg #[(.int .u8 (3 : Int)), (.slice (some (⟨r16, 0, none⟩ : Addr)) 1 1), (.string ByteArray.empty)])] (.one (.one .bool)) fun (u17 : Bool) =>
  splitW u17 (callW Tryz.prog 27 [(.pointer u8.1)] (.one (.one (.int .u64))) fun (u18 : Int) =>
  splitW (u18 == (2 : Int)) (splitW (u12.2.1 == (0 : Int)) (splitW (u14 == (0 : Int)) (callW Tryz.prog 17 [(.pointer u8.1)] (.one (.one (.int .i64))) fun (u19 : Int) => K (.bool (u19 == (IntKind.wrap .i64 (u13 + (1 : Int)))))) <| K (.bool false)) <| K (.bool false)) <| K (.bool false)) <| K (.bool false)) <| K (.bool false)) <| K (.bool false)
theorem eq7  (K : Value → WP) : bodyW Tryz.prog Tryz.f7 an7 false [] K = S7  K := by kernel_rfl
theorem calls7  {K : Value → WP} {w : World} (h : S7  K w) : Calls Tryz.prog 7 #[] w (Ret K) := callsR_of_bodyW mixed Tryz.func7 (of_decide_eq_true (by kernel_rfl)) (by rw [eq7]; exact h)

/-- shadowbook/shadowbooklaw13.made -/
def an8 : Ann := (.seq .nil (.seq .nil (.seq .nil (.seq (.seq .nil (.cond (.seq .nil .nil) .nil)) (.seq .nil .nil)))))
def S8 (x0_0 : Int) (x0_1 : Int) (K : Value → WP) : WP := 
  newW (.cells #[(.int .i64 x0_0), (.int .i64 x0_1)] 28) fun (r1 : Nat) =>
  ldAW [(.int .i64), (.int .i64)] (⟨r1, 0, none⟩ : Addr) fun (u2 : (Int × Int × Unit)) =>
  callW Tryz.prog 11 [(.agg #[(.int .i64 u2.1), (.int .i64 u2.2.1)])] (.many [(.one .ptr), (.one (.int .i64))]) fun (u3 : Option Addr × Int × Unit) =>
  callW Tryz.prog 10 [(.pointer u3.1)] (.many [(.one .ptr), (.one (.int .i64))]) fun (u4 : Option Addr × Int × Unit) =>
  splitW (u4.2.1 != (0 : Int)) (K (.tuple #[(.pointer u3.1), (.pointer none)])) <| K (.tuple #[(.pointer u3.1), (.pointer u4.1)])
theorem eq8 (x0_0 : Int) (x0_1 : Int) (K : Value → WP) : bodyW Tryz.prog Tryz.f8 an8 false [(.agg #[(.int .i64 x0_0), (.int .i64 x0_1)])] K = S8 x0_0 x0_1 K := by kernel_rfl
theorem calls8 (x0_0 : Int) (x0_1 : Int) {K : Value → WP} {w : World} (h : S8 x0_0 x0_1 K w) : Calls Tryz.prog 8 #[(.agg #[(.int .i64 x0_0), (.int .i64 x0_1)])] w (Ret K) := callsR_of_bodyW mixed Tryz.func8 (of_decide_eq_true (by kernel_rfl)) (by rw [eq8]; exact h)

/-- shadowbook/shadowbooklaw13.small -/
def an9 : Ann := (.seq .nil (.seq .nil .nil))
def S9  (K : Value → WP) : WP := 
  newW (.cells #[(.int .i64 (0 : Int)), (.int .i64 (0 : Int))] 28) fun (r1 : Nat) =>
  guardW ((#[(.int .i64 (128 : Int)), (.int .i64 (12 : Int))] : Array Value).size = 2) <|
  stAW (⟨r1, 0, none⟩ : Addr) [(.int .i64 (128 : Int)), (.int .i64 (12 : Int))] <|
  ldAW [(.int .i64), (.int .i64)] (⟨r1, 0, none⟩ : Addr) fun (u2 : (Int × Int × Unit)) => K (.agg #[(.int .i64 u2.1), (.int .i64 u2.2.1)])
theorem eq9  (K : Value → WP) : bodyW Tryz.prog Tryz.f9 an9 false [] K = S9  K := by kernel_rfl
theorem calls9  {K : Value → WP} {w : World} (h : S9  K w) : Calls Tryz.prog 9 #[] w (Ret K) := callsR_of_bodyW mixed Tryz.func9 (of_decide_eq_true (by kernel_rfl)) (by rw [eq9]; exact h)

/-- shadowbook/space.Format -/
def an10 : Ann := (.seq .nil (.seq (.seq .nil (.cond (.seq .nil .nil) .nil)) (.seq .nil (.seq (.seq .nil (.cond (.seq .nil .nil) .nil)) (.seq .nil (.seq (.seq .nil (.block (.loop [(29, .sh (.one (.int .i64)))] [0, 4, 6, 28, 1000000] (.seq .nil (.seq (.cond .nil .nil) (.seq (.block (.seq .nil (.seq (.seq .nil (.cond (.seq .nil .nil) .nil)) .nil))) .nil)))))) (.seq (.seq .nil (.seq .nil (.cond (.seq .nil .nil) .nil))) (.seq (.seq .nil (.seq .nil (.cond (.seq .nil .nil) .nil))) (.seq (.seq .nil (.seq .nil (.cond (.seq .nil .nil) .nil))) (.seq .nil .nil))))))))))
def S10 (x0 : Option Addr) (K : Value → WP) : WP := 
  splitW (Option.isNone x0) (K (.tuple #[(.pointer none), (.int .i64 (1 : Int))])) <|
  callW Tryz.prog 38 [(.pointer x0)] (.one (.agg [(.int .i64), (.int .i64)])) fun (u1 : (Int × Int × Unit)) =>
  callW Tryz.prog 37 [(.agg #[(.int .i64 u1.1), (.int .i64 u1.2.1)])] (.many [(.one .ptr), (.one (.int .i64))]) fun (u2 : Option Addr × Int × Unit) =>
  splitW (u2.2.1 != (0 : Int)) (K (.tuple #[(.pointer none), (.int .i64 u2.2.1)])) <|
  callW Tryz.prog 38 [(.pointer x0)] (.one (.agg [(.int .i64), (.int .i64)])) fun (u3 : (Int × Int × Unit)) =>
  newW (.cells #[(.int .u64 (0 : Int)), (.int .i64 (0 : Int)), (.int .i64 (0 : Int)), (.int .u32 (0 : Int)), (.slice none 0 0)] 78) fun (r4 : Nat) =>
  guardW ((#[(.int .u64 (1 : Int)), (.int .i64 u3.1), (.int .i64 u3.2.1), (.int .u32 (0 : Int)), (.slice none 0 0)] : Array Value).size = 5) <|
  stAW (⟨r4, 0, none⟩ : Addr) [(.int .u64 (1 : Int)), (.int .i64 u3.1), (.int .i64 u3.2.1), (.int .u32 (0 : Int)), (.slice none 0 0)] <|
  callW Tryz.prog 38 [(.pointer x0)] (.one (.agg [(.int .i64), (.int .i64)])) fun (u5 : (Int × Int × Unit)) =>
  callW Tryz.prog 39 [(.agg #[(.int .i64 u5.1), (.int .i64 u5.2.1)])] (.one (.one (.int .i64))) fun (u6 : Int) =>
  loopW (Int × Unit) ((0 : Int), ()) fun (y8 : Int × Unit) (I7 : (Int × Unit) → WP) =>
  splitW (decide (y8.1 < u6)) (callW Tryz.prog 40 [(.pointer u2.1), (.pointer none)] (.many [(.one (.int .u32)), (.one (.int .i64))]) fun (u9 : Int × Int × Unit) =>
  splitW (u9.2.1 != (0 : Int)) (K (.tuple #[(.pointer none), (.int .i64 (2 : Int))])) <|
  ldW .slc ((⟨r4, 0, none⟩ : Addr).add 4) fun (u10 : (Option Addr × Nat × Nat)) =>
  newW (.cells #[(.int .u32 u9.1)] 35) fun (r11 : Nat) =>
  runW Tryz.prog (Builtin.append_ #[38, 38] 38 #[(.slice u10.1 u10.2.1 u10.2.2), (.slice (some (⟨r11, 0, none⟩ : Addr)) 1 1)]) .slc fun (u12 : (Option Addr × Nat × Nat)) =>
  stW ((⟨r4, 0, none⟩ : Addr).add 4) (.slice u12.1 u12.2.1 u12.2.2) <| I7 ((IntKind.wrap .i64 (y8.1 + (1 : Int))), ())) <|
  ldAW [(.int .u64), (.int .i64), (.int .i64), (.int .u32), .slc] (⟨r4, 0, none⟩ : Addr) fun (u13 : (Int × Int × Int × Int × (Option Addr × Nat × Nat) × Unit)) =>
  callW Tryz.prog 41 [(.agg #[(.int .u64 u13.1), (.int .i64 u13.2.1), (.int .i64 u13.2.2.1), (.int .u32 u13.2.2.2.1), (.slice u13.2.2.2.2.1.1 u13.2.2.2.2.1.2.1 u13.2.2.2.2.1.2.2)])] (.one (.one (.int .i64))) fun (u14 : Int) =>
  splitW (u14 != (0 : Int)) (K (.tuple #[(.pointer none), (.int .i64 u14)])) <|
  callW Tryz.prog 38 [(.pointer x0)] (.one (.agg [(.int .i64), (.int .i64)])) fun (u15 : (Int × Int × Unit)) =>
  runW Tryz.prog (Instr.makeSlice 62 (.int .i64 u15.1) (.int .i64 u15.1)) .slc fun (u16 : Option Addr × Nat × Nat) =>
  runW Tryz.prog (Go.convert 62 9 (.slice u16.1 u16.2.1 u16.2.2)) .str fun (u17 : ByteArray) =>
  callW Tryz.prog 42 [(.pointer x0), (.int .i64 (1 : Int)), (.string u17)] (.one (.one (.int .i64))) fun (u18 : Int) =>
  splitW (u18 != (0 : Int)) (K (.tuple #[(.pointer none), (.int .i64 u18)])) <|
  ldAW [(.int .u64), (.int .i64), (.int .i64), (.int .u32), .slc] (⟨r4, 0, none⟩ : Addr) fun (u19 : (Int × Int × Int × Int × (Option Addr × Nat × Nat) × Unit)) =>
  callW Tryz.prog 43 [(.pointer x0), (.pointer u2.1), (.agg #[(.int .u64 u19.1), (.int .i64 u19.2.1), (.int .i64 u19.2.2.1), (.int .u32 u19.2.2.2.1), (.slice u19.2.2.2.2.1.1 u19.2.2.2.2.1.2.1 u19.2.2.2.2.1.2.2)]), (.int .i64 (0 : Int))] (.one (.one (.int .i64))) fun (u20 : Int) =>
  splitW (u20 != (0 : Int)) (K (.tuple #[(.pointer none), (.int .i64 u20)])) <|
  drewW <|
  ldAW [(.int .u64), (.int .i64), (.int .i64), (.int .u32), .slc] (⟨r4, 0, none⟩ : Addr) fun (u21 : (Int × Int × Int × Int × (Option Addr × Nat × Nat) × Unit)) =>
  callW Tryz.prog 44 [(.pointer u2.1)] (.one (.one .ptr)) fun (u22 : Option Addr) =>
  heldW [[((⟨r4, 0, none⟩ : Addr).add 0, (.int .u64 u21.1)), ((⟨r4, 0, none⟩ : Addr).add 1, (.int .i64 u21.2.1)), ((⟨r4, 0, none⟩ : Addr).add 2, (.int .i64 u21.2.2.1)), ((⟨r4, 0, none⟩ : Addr).add 3, (.int .u32 u21.2.2.2.1)), ((⟨r4, 0, none⟩ : Addr).add 4, (.slice u21.2.2.2.2.1.1 u21.2.2.2.2.1.2.1 u21.2.2.2.2.1.2.2))]] <|
  newW (.cells #[(.pointer x0), (.int .u64 u21.1), (.int .i64 u21.2.1), (.int .i64 u21.2.2.1), (.int .u32 u21.2.2.2.1), (.slice u21.2.2.2.2.1.1 u21.2.2.2.2.1.2.1 u21.2.2.2.2.1.2.2), (.int .i64 (0 : Int)), (.pointer u2.1), (.pointer u22), (.pointer none)] 86) fun (r23 : Nat) => K (.tuple #[(.pointer (some (⟨r23, 0, none⟩ : Addr))), (.int .i64 (0 : Int))])
theorem eq10 (x0 : Option Addr) (K : Value → WP) : bodyW Tryz.prog Tryz.f10 an10 false [(.pointer x0)] K = S10 x0 K := by kernel_rfl
theorem calls10 (x0 : Option Addr) {K : Value → WP} {w : World} (h : S10 x0 K w) : Calls Tryz.prog 10 #[(.pointer x0)] w (Ret K) := callsR_of_bodyW mixed Tryz.func10 (of_decide_eq_true (by kernel_rfl)) (by rw [eq10]; exact h)

/-- shadowbook/device.New -/
def an11 : Ann := (.seq .nil (.seq (.seq .nil (.seq .nil (.cond (.seq .nil .nil) .nil))) (.seq .nil .nil)))
def S11 (x0_0 : Int) (x0_1 : Int) (K : Value → WP) : WP := 
  newW (.cells #[(.int .i64 x0_0), (.int .i64 x0_1)] 28) fun (r1 : Nat) =>
  ldAW [(.int .i64), (.int .i64)] (⟨r1, 0, none⟩ : Addr) fun (u2 : (Int × Int × Unit)) =>
  callW Tryz.prog 45 [(.agg #[(.int .i64 u2.1), (.int .i64 u2.2.1)])] (.one (.one (.int .i64))) fun (u3 : Int) =>
  splitW (u3 != (0 : Int)) (K (.tuple #[(.pointer none), (.int .i64 u3)])) <|
  drewW <|
  ldAW [(.int .i64), (.int .i64)] (⟨r1, 0, none⟩ : Addr) fun (u4 : (Int × Int × Unit)) =>
  ldW (.int .i64) (⟨r1, 0, none⟩ : Addr) fun (u5 : Int) =>
  ldW (.int .i64) ((⟨r1, 0, none⟩ : Addr).add 1) fun (u6 : Int) =>
  callW Tryz.prog 47 [(.string (ByteArray.mk #[0])), (.int .i64 u5)] (.one (.one .str)) fun (u7 : ByteArray) =>
  heldW [[(((⟨r1, 0, none⟩ : Addr).add 1), (.int .i64 u6))], [((⟨r1, 0, none⟩ : Addr).add 0, (.int .i64 u4.1)), ((⟨r1, 0, none⟩ : Addr).add 1, (.int .i64 u4.2.1))]] <|
  newW (.cells #[(.string u7)] 9) fun (r8 : Nat) =>
  heldW [[(((⟨r1, 0, none⟩ : Addr).add 1), (.int .i64 u6))], [((⟨r1, 0, none⟩ : Addr).add 0, (.int .i64 u4.1)), ((⟨r1, 0, none⟩ : Addr).add 1, (.int .i64 u4.2.1))]] <|
  callW Tryz.prog 46 [(.slice (some (⟨r8, 0, none⟩ : Addr)) 1 1), (.int .i64 u6)] (.one (.one .slc)) fun (u9 : (Option Addr × Nat × Nat)) =>
  heldW [[((⟨r1, 0, none⟩ : Addr).add 0, (.int .i64 u4.1)), ((⟨r1, 0, none⟩ : Addr).add 1, (.int .i64 u4.2.1))]] <|
  newW (.cells #[(.int .i64 u4.1), (.int .i64 u4.2.1), (.slice u9.1 u9.2.1 u9.2.2), (.slice none 0 0), (.int .i64 (0 : Int)), (.int .i64 (-1 : Int))] 91) fun (r10 : Nat) => K (.tuple #[(.pointer (some (⟨r10, 0, none⟩ : Addr))), (.int .i64 (0 : Int))])
theorem eq11 (x0_0 : Int) (x0_1 : Int) (K : Value → WP) : bodyW Tryz.prog Tryz.f11 an11 false [(.agg #[(.int .i64 x0_0), (.int .i64 x0_1)])] K = S11 x0_0 x0_1 K := by kernel_rfl
theorem calls11 (x0_0 : Int) (x0_1 : Int) {K : Value → WP} {w : World} (h : S11 x0_0 x0_1 K w) : Calls Tryz.prog 11 #[(.agg #[(.int .i64 x0_0), (.int .i64 x0_1)])] w (Ret K) := callsR_of_bodyW mixed Tryz.func11 (of_decide_eq_true (by kernel_rfl)) (by rw [eq11]; exact h)

/-- shadowbook/space.Open -/
def an12 : Ann := (.seq .nil (.seq (.seq .nil (.cond (.seq .nil .nil) .nil)) (.seq .nil (.seq .nil (.seq .nil (.seq (.seq .nil (.cond (.seq .nil .nil) .nil)) (.seq .nil (.seq (.seq .nil (.block (.loop [(11, .sh (.one .slc)), (50, .sh (.one (.int .i64)))] [0, 8, 9, 48, 49, 1000000] (.seq .nil (.seq (.cond .nil .nil) (.seq (.block (.seq .nil (.seq .nil (.seq .nil (.seq (.seq .nil (.cond (.seq .nil .nil) .nil)) .nil))))) .nil)))))) (.seq .nil (.seq (.seq .nil (.cond (.seq .nil .nil) .nil)) (.seq .nil .nil)))))))))))
def S12 (x0 : Option Addr) (K : Value → WP) : WP := 
  splitW (Option.isNone x0) (K (.tuple #[(.pointer none), (.int .i64 (1 : Int))])) <|
  callW Tryz.prog 48 [(.pointer x0), (.int .i64 (0 : Int))] (.many [(.one .str), (.one (.int .i64))]) fun (u1 : ByteArray × Int × Unit) =>
  callW Tryz.prog 48 [(.pointer x0), (.int .i64 (1 : Int))] (.many [(.one .str), (.one (.int .i64))]) fun (u2 : ByteArray × Int × Unit) =>
  callW Tryz.prog 49 [(.string u1.1), (.string u2.1)] (.many [(.one (.int .i64)), (.agg [(.int .u64), (.int .i64), (.int .i64), (.int .u32), .slc]), (.one (.int .i64))]) fun (u3 : Int × (Int × Int × Int × Int × (Option Addr × Nat × Nat) × Unit) × Int × Unit) =>
  newW (.cells #[(.int .u64 (0 : Int)), (.int .i64 (0 : Int)), (.int .i64 (0 : Int)), (.int .u32 (0 : Int)), (.slice none 0 0)] 78) fun (r4 : Nat) =>
  guardW ((#[(.int .u64 u3.2.1.1), (.int .i64 u3.2.1.2.1), (.int .i64 u3.2.1.2.2.1), (.int .u32 u3.2.1.2.2.2.1), (.slice u3.2.1.2.2.2.2.1.1 u3.2.1.2.2.2.2.1.2.1 u3.2.1.2.2.2.2.1.2.2)] : Array Value).size = 5) <|
  stAW (⟨r4, 0, none⟩ : Addr) [(.int .u64 u3.2.1.1), (.int .i64 u3.2.1.2.1), (.int .i64 u3.2.1.2.2.1), (.int .u32 u3.2.1.2.2.2.1), (.slice u3.2.1.2.2.2.2.1.1 u3.2.1.2.2.2.2.1.2.1 u3.2.1.2.2.2.2.1.2.2)] <|
  drewW <|
  splitW (u3.2.2.1 != (0 : Int)) (K (.tuple #[(.pointer none), (.int .i64 (10 : Int))])) <|
  ldAW [(.int .i64), (.int .i64)] ((⟨r4, 0, none⟩ : Addr).add 1) fun (u5 : (Int × Int × Unit)) =>
  callW Tryz.prog 38 [(.pointer x0)] (.one (.agg [(.int .i64), (.int .i64)])) fun (u6 : (Int × Int × Unit)) =>
  heldW [[(((⟨r4, 0, none⟩ : Addr).add 1).add 0, (.int .i64 u5.1)), (((⟨r4, 0, none⟩ : Addr).add 1).add 1, (.int .i64 u5.2.1))]] <|
  eqW Tryz.prog (eqS .neq 28 (.tmp 42) (.tmp 44) (.agg #[(.int .i64 u5.1), (.int .i64 u5.2.1)]) (.agg #[(.int .i64 u6.1), (.int .i64 u6.2.1)])) fun (b7 : Bool) =>
  splitW b7 (K (.tuple #[(.pointer none), (.int .i64 (10 : Int))])) <|
  ldW .slc ((⟨r4, 0, none⟩ : Addr).add 4) fun (u8 : (Option Addr × Nat × Nat)) =>
  loopW ((Option Addr × Nat × Nat) × Int × Unit) ((none, 0, 0), (0 : Int), ()) fun (y10 : (Option Addr × Nat × Nat) × Int × Unit) (I9 : ((Option Addr × Nat × Nat) × Int × Unit) → WP) =>
  splitW (decide (y10.2.1 < ((u8.2.1 : Nat) : Int))) (guardW (0 ≤ y10.2.1 ∧ y10.2.1 < ((u8.2.1 : Nat) : Int)) <|
  ptrW u8.1 fun (p11 : Addr) =>
  ldW (.int .u32) (p11.add (Int.toNat y10.2.1 * 1)) fun (u12 : Int) =>
  callW Tryz.prog 48 [(.pointer x0), (.int .i64 (IntKind.wrap .i64 u12))] (.many [(.one .str), (.one (.int .i64))]) fun (u13 : ByteArray × Int × Unit) =>
  callW Tryz.prog 50 [(.string u13.1), (.int .u8 (2 : Int))] (.many [(.agg [(.int .u8), (.int .u64), .str]), (.one (.int .i64))]) fun (u14 : (Int × Int × ByteArray × Unit) × Int × Unit) =>
  newW (.cells #[(.int .u8 (0 : Int)), (.int .u64 (0 : Int)), (.string ByteArray.empty)] 97) fun (r15 : Nat) =>
  guardW ((#[(.int .u8 u14.1.1), (.int .u64 u14.1.2.1), (.string u14.1.2.2.1)] : Array Value).size = 3) <|
  stAW (⟨r15, 0, none⟩ : Addr) [(.int .u8 u14.1.1), (.int .u64 u14.1.2.1), (.string u14.1.2.2.1)] <|
  splitW (u14.2.1 != (0 : Int)) (K (.tuple #[(.pointer none), (.int .i64 (10 : Int))])) <|
  ldW (.int .u64) ((⟨r15, 0, none⟩ : Addr).add 1) fun (u16 : Int) =>
  ldW (.int .u64) (⟨r4, 0, none⟩ : Addr) fun (u17 : Int) =>
  splitW (u16 != u17) (K (.tuple #[(.pointer none), (.int .i64 (10 : Int))])) <|
  ldW .str ((⟨r15, 0, none⟩ : Addr).add 2) fun (u18 : ByteArray) =>
  newW (.cells #[(.string u18)] 9) fun (r19 : Nat) =>
  runW Tryz.prog (Builtin.append_ #[88, 88] 88 #[(.slice y10.1.1 y10.1.2.1 y10.1.2.2), (.slice (some (⟨r19, 0, none⟩ : Addr)) 1 1)]) .slc fun (u20 : (Option Addr × Nat × Nat)) => I9 ((u20.1, u20.2.1, u20.2.2), (IntKind.wrap .i64 (y10.2.1 + (1 : Int))), ())) <|
  callW Tryz.prog 38 [(.pointer x0)] (.one (.agg [(.int .i64), (.int .i64)])) fun (u21 : (Int × Int × Unit)) =>
  callW Tryz.prog 51 [(.agg #[(.int .i64 u21.1), (.int .i64 u21.2.1)]), (.slice y10.1.1 y10.1.2.1 y10.1.2.2)] (.many [(.one .ptr), (.one (.int .i64))]) fun (u22 : Option Addr × Int × Unit) =>
  splitW (u22.2.1 != (0 : Int)) (K (.tuple #[(.pointer none), (.int .i64 (10 : Int))])) <|
  drewW <|
  ldAW [(.int .u64), (.int .i64), (.int .i64), (.int .u32), .slc] (⟨r4, 0, none⟩ : Addr) fun (u23 : (Int × Int × Int × Int × (Option Addr × Nat × Nat) × Unit)) =>
  callW Tryz.prog 44 [(.pointer u22.1)] (.one (.one .ptr)) fun (u24 : Option Addr) =>
  heldW [[((⟨r4, 0, none⟩ : Addr).add 0, (.int .u64 u23.1)), ((⟨r4, 0, none⟩ : Addr).add 1, (.int .i64 u23.2.1)), ((⟨r4, 0, none⟩ : Addr).add 2, (.int .i64 u23.2.2.1)), ((⟨r4, 0, none⟩ : Addr).add 3, (.int .u32 u23.2.2.2.1)), ((⟨r4, 0, none⟩ : Addr).add 4, (.slice u23.2.2.2.2.1.1 u23.2.2.2.2.1.2.1 u23.2.2.2.2.1.2.2))]] <|
  newW (.cells #[(.pointer x0), (.int .u64 u23.1), (.int .i64 u23.2.1), (.int .i64 u23.2.2.1), (.int .u32 u23.2.2.2.1), (.slice u23.2.2.2.2.1.1 u23.2.2.2.2.1.2.1 u23.2.2.2.2.1.2.2), (.int .i64 u3.1), (.pointer u22.1), (.pointer u24), (.pointer none)] 86) fun (r25 : Nat) => K (.tuple #[(.pointer (some (⟨r25, 0, none⟩ : Addr))), (.int .i64 (0 : Int))])
theorem eq12 (x0 : Option Addr) (K : Value → WP) : bodyW Tryz.prog Tryz.f12 an12 false [(.pointer x0)] K = S12 x0 K := by kernel_rfl
theorem calls12 (x0 : Option Addr) {K : Value → WP} {w : World} (h : S12 x0 K w) : Calls Tryz.prog 12 #[(.pointer x0)] w (Ret K) := callsR_of_bodyW mixed Tryz.func12 (of_decide_eq_true (by kernel_rfl)) (by rw [eq12]; exact h)

/-- (*shadowbook/space.Space).Put -/
def an13 : Ann := (.seq .nil (.seq (.block (.seq .nil (.cond (.seq .nil .nil) (.join [(15, .sh (.one .bool))] [2, 3, 1000000] .nil (.cond (.seq .nil .nil) (.seq .nil (.cond (.seq .nil .nil) (.join [(36, .sh (.one .bool))] [2, 3, 1000000] .nil (.cond (.seq .nil .nil) (.seq .nil (.cond (.seq .nil .nil) .nil))))))))))) (.seq .nil (.seq (.seq .nil (.cond (.seq .nil .nil) .nil)) (.seq .nil (.seq (.seq .nil (.block (.loop [(8, .sh (.one .slc)), (81, .sh (.one (.int .i64)))] [2, 3, 6, 79, 80, 1000000] (.seq .nil (.seq (.cond .nil .nil) (.seq (.block (.seq .nil .nil)) .nil)))))) (.seq (.seq .nil (.seq .nil (.cond (.seq .nil .nil) .nil))) (.seq .nil .nil))))))))
def S13 (x0 : Option Addr) (x1_0 : Int) (a1_1 : Option Addr) (n1_1 c1_1 : Nat) (x1_2 : ByteArray) (K : Value → WP) : WP := 
  newW (.cells #[(.pointer x0)] 24) fun (r1 : Nat) =>
  newW (.cells #[(.int .u8 x1_0), (.slice a1_1 n1_1 c1_1), (.string x1_2)] 40) fun (r2 : Nat) =>
  ldW .ptr (⟨r1, 0, none⟩ : Addr) fun (u3 : Option Addr) =>
  splitW (Option.isNone u3) (K (.tuple #[(.int .u32 (0 : Int)), (.int .i64 (1 : Int))])) <|
  joinW (Bool × Unit) (fun (J4 : (Bool × Unit) → WP) =>
  ldW (.int .u8) (⟨r2, 0, none⟩ : Addr) fun (u6 : Int) =>
  splitW (decide (u6 < (3 : Int))) (J4 (true, ())) <|
  ldW .slc ((⟨r2, 0, none⟩ : Addr).add 1) fun (u7 : (Option Addr × Nat × Nat)) =>
  splitW (decide (((u7.2.1 : Nat) : Int) > (65535 : Int))) (J4 (true, ())) <|
  ldW .slc ((⟨r2, 0, none⟩ : Addr).add 1) fun (u8 : (Option Addr × Nat × Nat)) =>
  callW Tryz.prog 52 [(.slice u8.1 u8.2.1 u8.2.2), (.func (.func 53) #[] #[(.pointer (some (⟨r1, 0, none⟩ : Addr)))])] (.one (.one .bool)) fun (u9 : Bool) => J4 (u9, ())) fun (y5 : Bool × Unit) =>
  splitW y5.1 (K (.tuple #[(.int .u32 (0 : Int)), (.int .i64 (2 : Int))])) <|
  ldW .slc ((⟨r2, 0, none⟩ : Addr).add 1) fun (u10 : (Option Addr × Nat × Nat)) =>
  callW Tryz.prog 52 [(.slice u10.1 u10.2.1 u10.2.2), (.func (.func 55) #[] #[(.pointer (some (⟨r1, 0, none⟩ : Addr)))])] (.one (.one .bool)) fun (u11 : Bool) =>
  splitW u11 (K (.tuple #[(.int .u32 (0 : Int)), (.int .i64 (8 : Int))])) <|
  joinW (Bool × Unit) (fun (J12 : (Bool × Unit) → WP) =>
  drewW <|
  ldW .slc ((⟨r2, 0, none⟩ : Addr).add 1) fun (u14 : (Option Addr × Nat × Nat)) =>
  ldW .ptr (⟨r1, 0, none⟩ : Addr) fun (u15 : Option Addr) =>
  callW Tryz.prog 23 [(.pointer u15), (.int .i64 (0 : Int))] (.one (.one (.int .i64))) fun (u16 : Int) =>
  heldW [[(((⟨r2, 0, none⟩ : Addr).add 1), (.slice u14.1 u14.2.1 u14.2.2))]] <|
  splitW (decide (((u14.2.1 : Nat) : Int) > (IntKind.wrap .i64 (Int.tdiv u16 (4 : Int))))) (J12 (true, ())) <|
  ldW .str ((⟨r2, 0, none⟩ : Addr).add 2) fun (u17 : ByteArray) =>
  ldW .ptr (⟨r1, 0, none⟩ : Addr) fun (u18 : Option Addr) =>
  ldW .slc ((⟨r2, 0, none⟩ : Addr).add 1) fun (u19 : (Option Addr × Nat × Nat)) =>
  callW Tryz.prog 23 [(.pointer u18), (.int .i64 ((u19.2.1 : Nat) : Int))] (.one (.one (.int .i64))) fun (u20 : Int) =>
  heldW [[(((⟨r2, 0, none⟩ : Addr).add 2), (.string u17))]] <| J12 ((decide (((u17.size : Nat) : Int) > u20)), ())) fun (y13 : Bool × Unit) =>
  splitW y13.1 (K (.tuple #[(.int .u32 (0 : Int)), (.int .i64 (3 : Int))])) <|
  drewW <|
  ldW .ptr (⟨r1, 0, none⟩ : Addr) fun (u21 : Option Addr) =>
  ldW .ptr (⟨r1, 0, none⟩ : Addr) fun (u22 : Option Addr) =>
  ptrW u22 fun (p23 : Addr) =>
  ldW .slc ((p23.add 1).add 4) fun (u24 : (Option Addr × Nat × Nat)) =>
  callW Tryz.prog 17 [(.pointer u21)] (.one (.one (.int .i64))) fun (u25 : Int) =>
  heldW [[(((p23.add 1).add 4), (.slice u24.1 u24.2.1 u24.2.2))], [((⟨r1, 0, none⟩ : Addr), (.pointer u22))]] <|
  splitW (decide (u25 ≤ ((u24.2.1 : Nat) : Int))) (K (.tuple #[(.int .u32 (0 : Int)), (.int .i64 (9 : Int))])) <|
  ldW .ptr (⟨r1, 0, none⟩ : Addr) fun (u26 : Option Addr) =>
  callW Tryz.prog 57 [(.pointer u26)] (.many [(.one (.int .u32)), (.one (.int .i64))]) fun (u27 : Int × Int × Unit) =>
  splitW (u27.2.1 != (0 : Int)) (K (.tuple #[(.int .u32 (0 : Int)), (.int .i64 u27.2.1)])) <|
  ldW .slc ((⟨r2, 0, none⟩ : Addr).add 1) fun (u28 : (Option Addr × Nat × Nat)) =>
  callW Tryz.prog 58 [(.slice none 0 0), (.int .u64 (IntKind.wrap .u64 ((u28.2.1 : Nat) : Int))), (.int .i64 (2 : Int))] (.one (.one .slc)) fun (u29 : (Option Addr × Nat × Nat)) =>
  ldW .slc ((⟨r2, 0, none⟩ : Addr).add 1) fun (u30 : (Option Addr × Nat × Nat)) =>
  loopW ((Option Addr × Nat × Nat) × Int × Unit) ((u29.1, u29.2.1, u29.2.2), (0 : Int), ()) fun (y32 : (Option Addr × Nat × Nat) × Int × Unit) (I31 : ((Option Addr × Nat × Nat) × Int × Unit) → WP) =>
  splitW (decide (y32.2.1 < ((u30.2.1 : Nat) : Int))) (guardW (0 ≤ y32.2.1 ∧ y32.2.1 < ((u30.2.1 : Nat) : Int)) <|
  ptrW u30.1 fun (p33 : Addr) =>
  ldW (.int .u32) (p33.add (Int.toNat y32.2.1 * 1)) fun (u34 : Int) =>
  callW Tryz.prog 58 [(.slice y32.1.1 y32.1.2.1 y32.1.2.2), (.int .u64 (IntKind.wrap .u64 u34)), (.int .i64 (4 : Int))] (.one (.one .slc)) fun (u35 : (Option Addr × Nat × Nat)) => I31 ((u35.1, u35.2.1, u35.2.2), (IntKind.wrap .i64 (y32.2.1 + (1 : Int))), ())) <|
  drewW <|
  ldW .ptr (⟨r1, 0, none⟩ : Addr) fun (u36 : Option Addr) =>
  ptrW u36 fun (p37 : Addr) =>
  ldW .ptr p37 fun (u38 : Option Addr) =>
  ldW (.int .u8) (⟨r2, 0, none⟩ : Addr) fun (u39 : Int) =>
  ldW .ptr (⟨r1, 0, none⟩ : Addr) fun (u40 : Option Addr) =>
  ptrW u40 fun (p41 : Addr) =>
  ldW (.int .u64) (p41.add 1) fun (u42 : Int) =>
  ldW .str ((⟨r2, 0, none⟩ : Addr).add 2) fun (u43 : ByteArray) =>
  runW Tryz.prog (Go.convert 62 9 (.slice y32.1.1 y32.1.2.1 y32.1.2.2)) .str fun (u44 : ByteArray) =>
  heldW [[(((⟨r2, 0, none⟩ : Addr).add 2), (.string u43))], [((p41.add 1), (.int .u64 u42))], [((⟨r1, 0, none⟩ : Addr), (.pointer u40))], [((⟨r2, 0, none⟩ : Addr), (.int .u8 u39))], [(p37, (.pointer u38))], [((⟨r1, 0, none⟩ : Addr), (.pointer u36))]] <|
  guardW (((u44.size + u43.size : Nat) : Int) ≤ IntKind.i64.max) <|
  callW Tryz.prog 59 [(.pointer u38), (.int .u32 u27.1), (.agg #[(.int .u8 u39), (.int .u64 (IntKind.wrap .u64 (u42 + (1 : Int)))), (.string (u44 ++ u43))])] (.one (.one (.int .i64))) fun (u45 : Int) =>
  splitW (u45 != (0 : Int)) (K (.tuple #[(.int .u32 (0 : Int)), (.int .i64 u45)])) <| K (.tuple #[(.int .u32 u27.1), (.int .i64 (0 : Int))])
theorem eq13 (x0 : Option Addr) (x1_0 : Int) (a1_1 : Option Addr) (n1_1 c1_1 : Nat) (x1_2 : ByteArray) (K : Value → WP) : bodyW Tryz.prog Tryz.f13 an13 false [(.pointer x0), (.agg #[(.int .u8 x1_0), (.slice a1_1 n1_1 c1_1), (.string x1_2)])] K = S13 x0 x1_0 a1_1 n1_1 c1_1 x1_2 K := by kernel_rfl
theorem calls13 (x0 : Option Addr) (x1_0 : Int) (a1_1 : Option Addr) (n1_1 c1_1 : Nat) (x1_2 : ByteArray) {K : Value → WP} {w : World} (h : S13 x0 x1_0 a1_1 n1_1 c1_1 x1_2 K w) : Calls Tryz.prog 13 #[(.pointer x0), (.agg #[(.int .u8 x1_0), (.slice a1_1 n1_1 c1_1), (.string x1_2)])] w (Ret K) := callsR_of_bodyW mixed Tryz.func13 (of_decide_eq_true (by kernel_rfl)) (by rw [eq13]; exact h)

/-- shadowbook/shadowbookkit.Times -/
def an14 : Ann := (.seq .nil (.seq .nil (.seq (.block (.loop [(0, .sh (.one .str)), (1, .sh (.one (.int .i64))), (5, .sh (.one .str))] [1000000] (.seq (.seq .nil (.cond .nil .nil)) (.seq (.block (.seq (.seq .nil (.cond .nil .nil)) .nil)) .nil)))) (.seq .nil .nil))))
def S14 (x0 : ByteArray) (x1 : Int) (K : Value → WP) : WP := 
  loopW (ByteArray × Int × ByteArray × Unit) (x0, x1, (ByteArray.mk #[]), ()) fun (y2 : ByteArray × Int × ByteArray × Unit) (I1 : (ByteArray × Int × ByteArray × Unit) → WP) =>
  splitW (decide (y2.2.1 > (0 : Int))) (splitW ((Int.tmod y2.2.1 (2 : Int)) == (1 : Int)) (guardW (((y2.2.2.1.size + y2.1.size : Nat) : Int) ≤ IntKind.i64.max) <|
  guardW (((y2.1.size + y2.1.size : Nat) : Int) ≤ IntKind.i64.max) <| I1 ((y2.1 ++ y2.1), (IntKind.wrap .i64 (Int.tdiv y2.2.1 (2 : Int))), (y2.2.2.1 ++ y2.1), ())) <|
  guardW (((y2.1.size + y2.1.size : Nat) : Int) ≤ IntKind.i64.max) <| I1 ((y2.1 ++ y2.1), (IntKind.wrap .i64 (Int.tdiv y2.2.1 (2 : Int))), y2.2.2.1, ())) <| K (.string y2.2.2.1)
theorem eq14 (x0 : ByteArray) (x1 : Int) (K : Value → WP) : bodyW Tryz.prog Tryz.f14 an14 false [(.string x0), (.int .i64 x1)] K = S14 x0 x1 K := by kernel_rfl
theorem calls14 (x0 : ByteArray) (x1 : Int) {K : Value → WP} {w : World} (h : S14 x0 x1 K w) : Calls Tryz.prog 14 #[(.string x0), (.int .i64 x1)] w (Ret K) := callsR_of_bodyW mixed Tryz.func14 (of_decide_eq_true (by kernel_rfl)) (by rw [eq14]; exact h)

/-- (*shadowbook/space.Space).Mark -/
def an15 : Ann := (.seq .nil (.seq (.block (.seq .nil (.cond (.seq .nil .nil) (.seq .nil (.cond (.seq .nil .nil) .nil))))) (.seq .nil (.seq .nil .nil))))
def S15 (x0 : Option Addr) (K : Value → WP) : WP := 
  splitW (Option.isNone x0) (K (.int .i64 (1 : Int))) <|
  ptrW x0 fun (p1 : Addr) =>
  ldW .ptr (p1.add 9) fun (u2 : Option Addr) =>
  splitW (!(Option.isNone u2)) (K (.int .i64 (8 : Int))) <|
  ptrW x0 fun (p3 : Addr) =>
  ldW .ptr (p3.add 8) fun (u4 : Option Addr) =>
  callW Tryz.prog 44 [(.pointer u4)] (.one (.one .ptr)) fun (u5 : Option Addr) =>
  ptrW x0 fun (p6 : Addr) =>
  stW (p6.add 9) (.pointer u5) <| K (.int .i64 (0 : Int))
theorem eq15 (x0 : Option Addr) (K : Value → WP) : bodyW Tryz.prog Tryz.f15 an15 false [(.pointer x0)] K = S15 x0 K := by kernel_rfl
theorem calls15 (x0 : Option Addr) {K : Value → WP} {w : World} (h : S15 x0 K w) : Calls Tryz.prog 15 #[(.pointer x0)] w (Ret K) := callsR_of_bodyW mixed Tryz.func15 (of_decide_eq_true (by kernel_rfl)) (by rw [eq15]; exact h)

/-- (*shadowbook/space.Space).Drop -/
def an16 : Ann := (.seq .nil (.seq (.block (.seq .nil (.cond (.seq .nil .nil) (.seq .nil (.cond (.seq .nil .nil) .nil))))) (.seq .nil (.seq .nil (.seq (.block (.loop [(5, .sh (.one .slc))] [0, 1000000] (.seq (.seq .nil (.cond .nil .nil)) (.block (.seq .nil (.seq .nil (.seq .nil (.seq (.seq .nil (.cond (.seq (.seq .nil (.seq .nil (.cond (.seq .nil .nil) .nil))) .nil) .nil)) (.seq .nil (.seq (.seq .nil (.cond (.seq .nil .nil) .nil)) (.seq (.seq .nil (.seq .nil (.cond (.seq .nil .nil) .nil))) (.seq .nil .nil)))))))))))) (.seq .nil .nil))))))
def S16 (x0 : Option Addr) (x1 : Int) (K : Value → WP) : WP := 
  splitW (Option.isNone x0) (K (.int .i64 (1 : Int))) <|
  callW Tryz.prog 54 [(.pointer x0), (.int .u32 x1)] (.one (.one .bool)) fun (u1 : Bool) =>
  splitW (!u1) (K (.int .i64 (2 : Int))) <|
  newW (.cells #[(.int .u32 x1)] 35) fun (r2 : Nat) =>
  loopW ((Option Addr × Nat × Nat) × Unit) (((some (⟨r2, 0, none⟩ : Addr)), 1, 1), ()) fun (y4 : (Option Addr × Nat × Nat) × Unit) (I3 : ((Option Addr × Nat × Nat) × Unit) → WP) =>
  splitW (decide (((y4.1.2.1 : Nat) : Int) > (0 : Int))) (guardW (0 ≤ (IntKind.wrap .i64 (((y4.1.2.1 : Nat) : Int) - (1 : Int))) ∧ (IntKind.wrap .i64 (((y4.1.2.1 : Nat) : Int) - (1 : Int))) < ((y4.1.2.1 : Nat) : Int)) <|
  ptrW y4.1.1 fun (p5 : Addr) =>
  ldW (.int .u32) (p5.add (Int.toNat (IntKind.wrap .i64 (((y4.1.2.1 : Nat) : Int) - (1 : Int))) * 1)) fun (u6 : Int) =>
  guardW (0 ≤ (IntKind.wrap .i64 (((y4.1.2.1 : Nat) : Int) - (1 : Int))) ∧ (IntKind.wrap .i64 (((y4.1.2.1 : Nat) : Int) - (1 : Int))) ≤ ((y4.1.2.2 : Nat) : Int)) <|
  ptrW x0 fun (p7 : Addr) =>
  ldW .ptr (p7.add 8) fun (u8 : Option Addr) =>
  callW Tryz.prog 56 [(.pointer u8), (.int .u32 u6)] (.one (.one (.int .i64))) fun (u9 : Int) =>
  splitW (u9 != (1 : Int)) (ptrW x0 fun (p10 : Addr) =>
  ldW .ptr (p10.add 8) fun (u11 : Option Addr) =>
  callW Tryz.prog 60 [(.pointer u11), (.int .u32 u6)] (.many [(.one (.int .i64)), (.one (.int .i64))]) fun (u12 : Int × Int × Unit) =>
  splitW (u12.2.1 != (0 : Int)) (K (.int .i64 u12.2.1)) <| I3 (((cutAddr y4.1.1 0 y4.1.2.2 1), (Int.toNat (IntKind.wrap .i64 (((y4.1.2.1 : Nat) : Int) - (1 : Int)))), y4.1.2.2), ())) <|
  callW Tryz.prog 22 [(.pointer x0), (.int .u32 u6)] (.many [(.agg [(.int .u8), .slc, .str]), (.one (.int .i64))]) fun (u13 : (Int × (Option Addr × Nat × Nat) × ByteArray × Unit) × Int × Unit) =>
  newW (.cells #[(.int .u8 (0 : Int)), (.slice none 0 0), (.string ByteArray.empty)] 40) fun (r14 : Nat) =>
  guardW ((#[(.int .u8 u13.1.1), (.slice u13.1.2.1.1 u13.1.2.1.2.1 u13.1.2.1.2.2), (.string u13.1.2.2.1)] : Array Value).size = 3) <|
  stAW (⟨r14, 0, none⟩ : Addr) [(.int .u8 u13.1.1), (.slice u13.1.2.1.1 u13.1.2.1.2.1 u13.1.2.1.2.2), (.string u13.1.2.2.1)] <|
  splitW (u13.2.1 != (0 : Int)) (K (.int .i64 u13.2.1)) <|
  ptrW x0 fun (p15 : Addr) =>
  ldW .ptr (p15.add 8) fun (u16 : Option Addr) =>
  callW Tryz.prog 60 [(.pointer u16), (.int .u32 u6)] (.many [(.one (.int .i64)), (.one (.int .i64))]) fun (u17 : Int × Int × Unit) =>
  splitW (u17.2.1 != (0 : Int)) (K (.int .i64 u17.2.1)) <|
  ldW .slc ((⟨r14, 0, none⟩ : Addr).add 1) fun (u18 : (Option Addr × Nat × Nat)) =>
  callW Tryz.prog 61 [(.slice u18.1 u18.2.1 u18.2.2)] .none fun (u19 : Unit) =>
  ldW .slc ((⟨r14, 0, none⟩ : Addr).add 1) fun (u20 : (Option Addr × Nat × Nat)) =>
  runW Tryz.prog (Builtin.append_ #[38, 38] 38 #[(.slice (cutAddr y4.1.1 0 y4.1.2.2 1) (Int.toNat (IntKind.wrap .i64 (((y4.1.2.1 : Nat) : Int) - (1 : Int)))) y4.1.2.2), (.slice u20.1 u20.2.1 u20.2.2)]) .slc fun (u21 : (Option Addr × Nat × Nat)) => I3 ((u21.1, u21.2.1, u21.2.2), ())) <| K (.int .i64 (0 : Int))
theorem eq16 (x0 : Option Addr) (x1 : Int) (K : Value → WP) : bodyW Tryz.prog Tryz.f16 an16 false [(.pointer x0), (.int .u32 x1)] K = S16 x0 x1 K := by kernel_rfl
theorem calls16 (x0 : Option Addr) (x1 : Int) {K : Value → WP} {w : World} (h : S16 x0 x1 K w) : Calls Tryz.prog 16 #[(.pointer x0), (.int .u32 x1)] w (Ret K) := callsR_of_bodyW mixed Tryz.func16 (of_decide_eq_true (by kernel_rfl)) (by rw [eq16]; exact h)

/-- (*shadowbook/space.Space).Free -/
def an17 : Ann := (.seq .nil (.seq (.seq .nil (.cond (.seq .nil .nil) .nil)) (.seq (.seq .nil (.block (.loop [(7, .sh (.one (.int .u32)))] [] (.seq .nil (.block .nil))))) (.seq .nil .nil))))
def S17 (x0 : Option Addr) (K : Value → WP) : WP := 
  newW (.cells #[(.int .i64 (0 : Int))] 3) fun (r1 : Nat) =>
  splitW (Option.isNone x0) (stW (⟨r1, 0, none⟩ : Addr) (.int .i64 (0 : Int)) <|
  leaveW Tryz.prog [] <|
  ldW (.int .i64) (⟨r1, 0, none⟩ : Addr) fun (u2 : Int) => K (.int .i64 u2)) <|
  callW Tryz.prog 62 [(.pointer x0)] (.one (.one .any)) fun (u3 : Value) =>
  rangeW Tryz.prog u3 (Int × Unit) (fun (t4 : Int × Unit) => [(.int .u32 t4.1)]) (fun (t4 : Int × Unit) (B5 : WP → WP) (N6 : WP) (Q7 : Code → WP) => B5 (ldW (.int .i64) (⟨r1, 0, none⟩ : Addr) fun (u10 : Int) =>
  stW (⟨r1, 0, none⟩ : Addr) (.int .i64 (IntKind.wrap .i64 (u10 + (1 : Int)))) <| N6)) fun (r8 : Nat) (p9 : Option Code) =>
  jumpK (ldW (.int .i64) (⟨r1, 0, none⟩ : Addr) fun (u11 : Int) =>
  stW (⟨r1, 0, none⟩ : Addr) (.int .i64 u11) <|
  leaveW Tryz.prog (⟨.collected r8, #[]⟩ :: []) <|
  ldW (.int .i64) (⟨r1, 0, none⟩ : Addr) fun (u12 : Int) => K (.int .i64 u12)) (leaveW Tryz.prog (⟨.collected r8, #[]⟩ :: []) <|
  ldW (.int .i64) (⟨r1, 0, none⟩ : Addr) fun (u13 : Int) => K (.int .i64 u13)) [] p9
theorem eq17 (x0 : Option Addr) (K : Value → WP) : bodyW Tryz.prog Tryz.f17 an17 true [(.pointer x0)] K = S17 x0 K := by kernel_rfl
theorem calls17 (x0 : Option Addr) {K : Value → WP} {w : World} (h : S17 x0 K w) : Calls Tryz.prog 17 #[(.pointer x0)] w (Ret K) := callsR_of_bodyW mixed Tryz.func17 (of_decide_eq_true (by kernel_rfl)) (by rw [eq17]; exact h)

/-- (*shadowbook/space.Space).Back -/
def an18 : Ann := (.seq .nil (.seq (.block (.seq .nil (.cond (.seq .nil .nil) (.seq .nil (.cond (.seq .nil .nil) .nil))))) (.seq .nil (.seq .nil .nil))))
def S18 (x0 : Option Addr) (K : Value → WP) : WP := 
  splitW (Option.isNone x0) (K (.int .i64 (1 : Int))) <|
  ptrW x0 fun (p1 : Addr) =>
  ldW .ptr (p1.add 9) fun (u2 : Option Addr) =>
  splitW (Option.isNone u2) (K (.int .i64 (8 : Int))) <|
  ptrW x0 fun (p3 : Addr) =>
  ldW .ptr (p3.add 9) fun (u4 : Option Addr) =>
  ptrW x0 fun (p5 : Addr) =>
  stW (p5.add 8) (.pointer u4) <|
  ptrW x0 fun (p6 : Addr) =>
  stW (p6.add 9) (.pointer none) <| K (.int .i64 (0 : Int))
theorem eq18 (x0 : Option Addr) (K : Value → WP) : bodyW Tryz.prog Tryz.f18 an18 false [(.pointer x0)] K = S18 x0 K := by kernel_rfl
theorem calls18 (x0 : Option Addr) {K : Value → WP} {w : World} (h : S18 x0 K w) : Calls Tryz.prog 18 #[(.pointer x0)] w (Ret K) := callsR_of_bodyW mixed Tryz.func18 (of_decide_eq_true (by kernel_rfl)) (by rw [eq18]; exact h)

/-- (*shadowbook/space.Space).Done -/
def an19 : Ann := (.seq .nil (.seq (.block (.seq .nil (.cond (.seq .nil .nil) (.seq .nil (.cond (.seq .nil .nil) .nil))))) (.seq .nil (.seq .nil .nil))))
def S19 (x0 : Option Addr) (K : Value → WP) : WP := 
  splitW (Option.isNone x0) (K (.int .i64 (1 : Int))) <|
  ptrW x0 fun (p1 : Addr) =>
  ldW .ptr (p1.add 9) fun (u2 : Option Addr) =>
  splitW (Option.isNone u2) (K (.int .i64 (8 : Int))) <|
  ptrW x0 fun (p3 : Addr) =>
  stW (p3.add 9) (.pointer none) <| K (.int .i64 (0 : Int))
theorem eq19 (x0 : Option Addr) (K : Value → WP) : bodyW Tryz.prog Tryz.f19 an19 false [(.pointer x0)] K = S19 x0 K := by kernel_rfl
theorem calls19 (x0 : Option Addr) {K : Value → WP} {w : World} (h : S19 x0 K w) : Calls Tryz.prog 19 #[(.pointer x0)] w (Ret K) := callsR_of_bodyW mixed Tryz.func19 (of_decide_eq_true (by kernel_rfl)) (by rw [eq19]; exact h)

/-- (*shadowbook/space.Space).Count -/
def an20 : Ann := (.seq .nil (.seq (.seq .nil (.cond (.seq .nil .nil) .nil)) (.seq .nil .nil)))
def S20 (x0 : Option Addr) (x1 : Int) (K : Value → WP) : WP := 
  splitW (Option.isNone x0) (K (.int .i64 (0 : Int))) <|
  ptrW x0 fun (p1 : Addr) =>
  ldW .ptr (p1.add 8) fun (u2 : Option Addr) =>
  callW Tryz.prog 56 [(.pointer u2), (.int .u32 x1)] (.one (.one (.int .i64))) fun (u3 : Int) => K (.int .i64 u3)
theorem eq20 (x0 : Option Addr) (x1 : Int) (K : Value → WP) : bodyW Tryz.prog Tryz.f20 an20 false [(.pointer x0), (.int .u32 x1)] K = S20 x0 x1 K := by kernel_rfl
theorem calls20 (x0 : Option Addr) (x1 : Int) {K : Value → WP} {w : World} (h : S20 x0 x1 K w) : Calls Tryz.prog 20 #[(.pointer x0), (.int .u32 x1)] w (Ret K) := callsR_of_bodyW mixed Tryz.func20 (of_decide_eq_true (by kernel_rfl)) (by rw [eq20]; exact h)

/-- (*shadowbook/space.Space).Abort -/
def an21 : Ann := (.seq .nil (.seq (.seq .nil (.cond (.seq .nil .nil) .nil)) (.seq .nil (.seq .nil .nil))))
def S21 (x0 : Option Addr) (K : Value → WP) : WP := 
  splitW (Option.isNone x0) (K (.int .i64 (1 : Int))) <|
  ptrW x0 fun (p1 : Addr) =>
  ldW .ptr (p1.add 7) fun (u2 : Option Addr) =>
  callW Tryz.prog 44 [(.pointer u2)] (.one (.one .ptr)) fun (u3 : Option Addr) =>
  ptrW x0 fun (p4 : Addr) =>
  stW (p4.add 8) (.pointer u3) <|
  ptrW x0 fun (p5 : Addr) =>
  stW (p5.add 9) (.pointer none) <| K (.int .i64 (0 : Int))
theorem eq21 (x0 : Option Addr) (K : Value → WP) : bodyW Tryz.prog Tryz.f21 an21 false [(.pointer x0)] K = S21 x0 K := by kernel_rfl
theorem calls21 (x0 : Option Addr) {K : Value → WP} {w : World} (h : S21 x0 K w) : Calls Tryz.prog 21 #[(.pointer x0)] w (Ret K) := callsR_of_bodyW mixed Tryz.func21 (of_decide_eq_true (by kernel_rfl)) (by rw [eq21]; exact h)

/-- (*shadowbook/space.Space).Get -/
def an22 : Ann := (.seq .nil (.seq (.block (.seq .nil (.cond (.seq .nil .nil) (.seq .nil (.cond (.seq .nil .nil) (.seq .nil (.cond (.seq .nil .nil) .nil))))))) (.seq .nil (.seq (.seq .nil (.cond (.seq .nil .nil) .nil)) (.seq .nil .nil)))))
def S22 (x0 : Option Addr) (x1 : Int) (K : Value → WP) : WP := 
  newW (.cells #[(.int .u8 (0 : Int)), (.slice none 0 0), (.string ByteArray.empty)] 40) fun (r1 : Nat) =>
  splitW (Option.isNone x0) (guardW ((#[(.int .u8 (0 : Int)), (.slice none 0 0), (.string ByteArray.empty)] : Array Value).size = 3) <|
  stAW (⟨r1, 0, none⟩ : Addr) [(.int .u8 (0 : Int)), (.slice none 0 0), (.string ByteArray.empty)] <|
  ldAW [(.int .u8), .slc, .str] (⟨r1, 0, none⟩ : Addr) fun (u2 : (Int × (Option Addr × Nat × Nat) × ByteArray × Unit)) => K (.tuple #[(.agg #[(.int .u8 u2.1), (.slice u2.2.1.1 u2.2.1.2.1 u2.2.1.2.2), (.string u2.2.2.1)]), (.int .i64 (1 : Int))])) <|
  callW Tryz.prog 54 [(.pointer x0), (.int .u32 x1)] (.one (.one .bool)) fun (u3 : Bool) =>
  splitW (!u3) (guardW ((#[(.int .u8 (0 : Int)), (.slice none 0 0), (.string ByteArray.empty)] : Array Value).size = 3) <|
  stAW (⟨r1, 0, none⟩ : Addr) [(.int .u8 (0 : Int)), (.slice none 0 0), (.string ByteArray.empty)] <|
  ldAW [(.int .u8), .slc, .str] (⟨r1, 0, none⟩ : Addr) fun (u4 : (Int × (Option Addr × Nat × Nat) × ByteArray × Unit)) => K (.tuple #[(.agg #[(.int .u8 u4.1), (.slice u4.2.1.1 u4.2.1.2.1 u4.2.1.2.2), (.string u4.2.2.1)]), (.int .i64 (2 : Int))])) <|
  ptrW x0 fun (p5 : Addr) =>
  ldW .ptr (p5.add 8) fun (u6 : Option Addr) =>
  callW Tryz.prog 56 [(.pointer u6), (.int .u32 x1)] (.one (.one (.int .i64))) fun (u7 : Int) =>
  splitW (u7 == (0 : Int)) (guardW ((#[(.int .u8 (0 : Int)), (.slice none 0 0), (.string ByteArray.empty)] : Array Value).size = 3) <|
  stAW (⟨r1, 0, none⟩ : Addr) [(.int .u8 (0 : Int)), (.slice none 0 0), (.string ByteArray.empty)] <|
  ldAW [(.int .u8), .slc, .str] (⟨r1, 0, none⟩ : Addr) fun (u8 : (Int × (Option Addr × Nat × Nat) × ByteArray × Unit)) => K (.tuple #[(.agg #[(.int .u8 u8.1), (.slice u8.2.1.1 u8.2.1.2.1 u8.2.1.2.2), (.string u8.2.2.1)]), (.int .i64 (8 : Int))])) <|
  ptrW x0 fun (p9 : Addr) =>
  ldW .ptr p9 fun (u10 : Option Addr) =>
  callW Tryz.prog 48 [(.pointer u10), (.int .i64 (IntKind.wrap .i64 x1))] (.many [(.one .str), (.one (.int .i64))]) fun (u11 : ByteArray × Int × Unit) =>
  splitW (u11.2.1 != (0 : Int)) (guardW ((#[(.int .u8 (0 : Int)), (.slice none 0 0), (.string ByteArray.empty)] : Array Value).size = 3) <|
  stAW (⟨r1, 0, none⟩ : Addr) [(.int .u8 (0 : Int)), (.slice none 0 0), (.string ByteArray.empty)] <|
  ldAW [(.int .u8), .slc, .str] (⟨r1, 0, none⟩ : Addr) fun (u12 : (Int × (Option Addr × Nat × Nat) × ByteArray × Unit)) => K (.tuple #[(.agg #[(.int .u8 u12.1), (.slice u12.2.1.1 u12.2.1.2.1 u12.2.1.2.2), (.string u12.2.2.1)]), (.int .i64 u11.2.1)])) <|
  callW Tryz.prog 63 [(.pointer x0), (.string u11.1)] (.many [(.agg [(.int .u8), .slc, .str]), (.one (.int .i64))]) fun (u13 : (Int × (Option Addr × Nat × Nat) × ByteArray × Unit) × Int × Unit) =>
  guardW ((#[(.int .u8 u13.1.1), (.slice u13.1.2.1.1 u13.1.2.1.2.1 u13.1.2.1.2.2), (.string u13.1.2.2.1)] : Array Value).size = 3) <|
  stAW (⟨r1, 0, none⟩ : Addr) [(.int .u8 u13.1.1), (.slice u13.1.2.1.1 u13.1.2.1.2.1 u13.1.2.1.2.2), (.string u13.1.2.2.1)] <|
  ldAW [(.int .u8), .slc, .str] (⟨r1, 0, none⟩ : Addr) fun (u14 : (Int × (Option Addr × Nat × Nat) × ByteArray × Unit)) => K (.tuple #[(.agg #[(.int .u8 u14.1), (.slice u14.2.1.1 u14.2.1.2.1 u14.2.1.2.2), (.string u14.2.2.1)]), (.int .i64 u13.2.1)])
theorem eq22 (x0 : Option Addr) (x1 : Int) (K : Value → WP) : bodyW Tryz.prog Tryz.f22 an22 false [(.pointer x0), (.int .u32 x1)] K = S22 x0 x1 K := by kernel_rfl
theorem calls22 (x0 : Option Addr) (x1 : Int) {K : Value → WP} {w : World} (h : S22 x0 x1 K w) : Calls Tryz.prog 22 #[(.pointer x0), (.int .u32 x1)] w (Ret K) := callsR_of_bodyW mixed Tryz.func22 (of_decide_eq_true (by kernel_rfl)) (by rw [eq22]; exact h)

/-- (*shadowbook/space.Space).Room -/
def an23 : Ann := (.seq .nil (.seq (.seq .nil (.cond (.seq .nil .nil) .nil)) (.seq .nil (.seq (.seq .nil (.cond (.seq .nil .nil) .nil)) (.seq .nil .nil)))))
def S23 (x0 : Option Addr) (x1 : Int) (K : Value → WP) : WP := 
  splitW (Option.isNone x0) (K (.int .i64 (0 : Int))) <|
  ptrW x0 fun (p1 : Addr) =>
  ldW (.int .i64) ((p1.add 1).add 1) fun (u2 : Int) =>
  callW Tryz.prog 64 [(.int .i64 u2)] (.one (.one (.int .i64))) fun (u3 : Int) =>
  splitW (decide (x1 < (0 : Int))) (K (.int .i64 (0 : Int))) <|
  splitW (decide (x1 > (IntKind.wrap .i64 (Int.tdiv (IntKind.wrap .i64 (u3 - (2 : Int))) (4 : Int))))) (K (.int .i64 (0 : Int))) <| K (.int .i64 (IntKind.wrap .i64 ((IntKind.wrap .i64 (u3 - (2 : Int))) - (IntKind.wrap .i64 ((4 : Int) * x1)))))
theorem eq23 (x0 : Option Addr) (x1 : Int) (K : Value → WP) : bodyW Tryz.prog Tryz.f23 an23 false [(.pointer x0), (.int .i64 x1)] K = S23 x0 x1 K := by kernel_rfl
theorem calls23 (x0 : Option Addr) (x1 : Int) {K : Value → WP} {w : World} (h : S23 x0 x1 K w) : Calls Tryz.prog 23 #[(.pointer x0), (.int .i64 x1)] w (Ret K) := callsR_of_bodyW mixed Tryz.func23 (of_decide_eq_true (by kernel_rfl)) (by rw [eq23]; exact h)

/-- (*shadowbook/space.Space).Commit -/
def an24 : Ann := (.seq .nil (.join [] [0, 1, 1000000] (.block (.seq .nil (.cond (.seq .nil .nil) (.join [(17, .sh (.one .bool))] [0, 1, 1000000] .nil (.cond (.seq .nil .nil) (.seq .nil (.cond (.seq .nil .nil) (.seq .nil (.cond (.seq .nil .nil) .nil))))))))) (.seq .nil (.seq (.seq .nil (.block (.loop [(67, .sh (.one (.int .i64)))] [0, 5, 66, 1000000] (.seq .nil (.seq (.cond .nil .nil) (.seq (.block (.seq .nil (.seq (.seq .nil (.cond (.seq .nil .nil) .nil)) .nil))) .nil)))))) (.seq (.seq .nil (.block (.loop [(90, .sh (.one (.int .i64)))] [0, 5, 88, 89, 1000000] (.seq .nil (.seq (.cond .nil .nil) (.seq (.block (.seq .nil (.seq .nil (.seq .nil (.cond (.seq .nil .nil) .nil))))) .nil)))))) (.seq .nil (.seq (.seq .nil (.seq .nil (.cond (.seq .nil .nil) .nil))) (.seq .nil (.seq .nil .nil)))))))))
def S24 (x0 : Option Addr) (x1 : Int) (K : Value → WP) : WP := 
  joinW (Unit) (fun (J1 : (Unit) → WP) =>
  splitW (Option.isNone x0) (K (.int .i64 (1 : Int))) <|
  joinW (Bool × Unit) (fun (J3 : (Bool × Unit) → WP) =>
  splitW (x1 != (0 : Int)) (callW Tryz.prog 54 [(.pointer x0), (.int .u32 x1)] (.one (.one .bool)) fun (u5 : Bool) => J3 ((!u5), ())) <| J3 (false, ())) fun (y4 : Bool × Unit) =>
  splitW y4.1 (K (.int .i64 (2 : Int))) <|
  splitW (x1 != (0 : Int)) (ptrW x0 fun (p6 : Addr) =>
  ldW .ptr (p6.add 8) fun (u7 : Option Addr) =>
  callW Tryz.prog 56 [(.pointer u7), (.int .u32 x1)] (.one (.one (.int .i64))) fun (u8 : Int) =>
  splitW (u8 == (0 : Int)) (K (.int .i64 (8 : Int))) <|
  drewW <|
  ptrW x0 fun (p9 : Addr) =>
  ldW .slc ((p9.add 1).add 4) fun (u10 : (Option Addr × Nat × Nat)) =>
  callW Tryz.prog 17 [(.pointer x0)] (.one (.one (.int .i64))) fun (u11 : Int) =>
  heldW [[(((p9.add 1).add 4), (.slice u10.1 u10.2.1 u10.2.2))]] <|
  splitW (decide (u11 < ((u10.2.1 : Nat) : Int))) (K (.int .i64 (9 : Int))) <| J1 ()) <|
  drewW <|
  ptrW x0 fun (p12 : Addr) =>
  ldW .slc ((p12.add 1).add 4) fun (u13 : (Option Addr × Nat × Nat)) =>
  callW Tryz.prog 17 [(.pointer x0)] (.one (.one (.int .i64))) fun (u14 : Int) =>
  heldW [[(((p12.add 1).add 4), (.slice u13.1 u13.2.1 u13.2.2))]] <|
  splitW (decide (u14 < ((u13.2.1 : Nat) : Int))) (K (.int .i64 (9 : Int))) <| J1 ()) fun (y2 : Unit) =>
  drewW <|
  ptrW x0 fun (p15 : Addr) =>
  ldW (.int .u64) (p15.add 1) fun (u16 : Int) =>
  ptrW x0 fun (p17 : Addr) =>
  ldAW [(.int .i64), (.int .i64)] ((p17.add 1).add 1) fun (u18 : (Int × Int × Unit)) =>
  newW (.cells #[(.int .u64 (0 : Int)), (.int .i64 (0 : Int)), (.int .i64 (0 : Int)), (.int .u32 (0 : Int)), (.slice none 0 0)] 78) fun (r19 : Nat) =>
  heldW [[(((p17.add 1).add 1).add 0, (.int .i64 u18.1)), (((p17.add 1).add 1).add 1, (.int .i64 u18.2.1))], [((p15.add 1), (.int .u64 u16))]] <|
  guardW ((#[(.int .u64 (IntKind.wrap .u64 (u16 + (1 : Int)))), (.int .i64 u18.1), (.int .i64 u18.2.1), (.int .u32 x1), (.slice none 0 0)] : Array Value).size = 5) <|
  stAW (⟨r19, 0, none⟩ : Addr) [(.int .u64 (IntKind.wrap .u64 (u16 + (1 : Int)))), (.int .i64 u18.1), (.int .i64 u18.2.1), (.int .u32 x1), (.slice none 0 0)] <|
  ptrW x0 fun (p20 : Addr) =>
  ldW .slc ((p20.add 1).add 4) fun (u21 : (Option Addr × Nat × Nat)) =>
  loopW (Int × Unit) ((0 : Int), ()) fun (y23 : Int × Unit) (I22 : (Int × Unit) → WP) =>
  splitW (decide (y23.1 < ((u21.2.1 : Nat) : Int))) (callW Tryz.prog 57 [(.pointer x0)] (.many [(.one (.int .u32)), (.one (.int .i64))]) fun (u24 : Int × Int × Unit) =>
  splitW (u24.2.1 != (0 : Int)) (K (.int .i64 u24.2.1)) <|
  ldW .slc ((⟨r19, 0, none⟩ : Addr).add 4) fun (u25 : (Option Addr × Nat × Nat)) =>
  newW (.cells #[(.int .u32 u24.1)] 35) fun (r26 : Nat) =>
  runW Tryz.prog (Builtin.append_ #[38, 38] 38 #[(.slice u25.1 u25.2.1 u25.2.2), (.slice (some (⟨r26, 0, none⟩ : Addr)) 1 1)]) .slc fun (u27 : (Option Addr × Nat × Nat)) =>
  stW ((⟨r19, 0, none⟩ : Addr).add 4) (.slice u27.1 u27.2.1 u27.2.2) <| I22 ((IntKind.wrap .i64 (y23.1 + (1 : Int))), ())) <|
  ptrW x0 fun (p28 : Addr) =>
  ldW .slc ((p28.add 1).add 4) fun (u29 : (Option Addr × Nat × Nat)) =>
  loopW (Int × Unit) ((0 : Int), ()) fun (y31 : Int × Unit) (I30 : (Int × Unit) → WP) =>
  splitW (decide (y31.1 < ((u29.2.1 : Nat) : Int))) (guardW (0 ≤ y31.1 ∧ y31.1 < ((u29.2.1 : Nat) : Int)) <|
  ptrW u29.1 fun (p32 : Addr) =>
  ldW (.int .u32) (p32.add (Int.toNat y31.1 * 1)) fun (u33 : Int) =>
  ptrW x0 fun (p34 : Addr) =>
  ldW .ptr (p34.add 8) fun (u35 : Option Addr) =>
  callW Tryz.prog 60 [(.pointer u35), (.int .u32 u33)] (.many [(.one (.int .i64)), (.one (.int .i64))]) fun (u36 : Int × Int × Unit) =>
  splitW (u36.2.1 != (0 : Int)) (K (.int .i64 u36.2.1)) <| I30 ((IntKind.wrap .i64 (y31.1 + (1 : Int))), ())) <|
  ptrW x0 fun (p37 : Addr) =>
  ldW (.int .i64) (p37.add 6) fun (u38 : Int) =>
  callW Tryz.prog 65 [(.int .i64 u38)] (.one (.one (.int .i64))) fun (u39 : Int) =>
  drewW <|
  ptrW x0 fun (p40 : Addr) =>
  ldW .ptr p40 fun (u41 : Option Addr) =>
  ptrW x0 fun (p42 : Addr) =>
  ldW .ptr (p42.add 8) fun (u43 : Option Addr) =>
  ldAW [(.int .u64), (.int .i64), (.int .i64), (.int .u32), .slc] (⟨r19, 0, none⟩ : Addr) fun (u44 : (Int × Int × Int × Int × (Option Addr × Nat × Nat) × Unit)) =>
  callW Tryz.prog 43 [(.pointer u41), (.pointer u43), (.agg #[(.int .u64 u44.1), (.int .i64 u44.2.1), (.int .i64 u44.2.2.1), (.int .u32 u44.2.2.2.1), (.slice u44.2.2.2.2.1.1 u44.2.2.2.2.1.2.1 u44.2.2.2.2.1.2.2)]), (.int .i64 u39)] (.one (.one (.int .i64))) fun (u45 : Int) =>
  splitW (u45 != (0 : Int)) (K (.int .i64 u45)) <|
  drewW <|
  ldAW [(.int .u64), (.int .i64), (.int .i64), (.int .u32), .slc] (⟨r19, 0, none⟩ : Addr) fun (u46 : (Int × Int × Int × Int × (Option Addr × Nat × Nat) × Unit)) =>
  ptrW x0 fun (p47 : Addr) =>
  ldW .ptr (p47.add 8) fun (u48 : Option Addr) =>
  callW Tryz.prog 44 [(.pointer u48)] (.one (.one .ptr)) fun (u49 : Option Addr) =>
  heldW [[((⟨r19, 0, none⟩ : Addr).add 0, (.int .u64 u46.1)), ((⟨r19, 0, none⟩ : Addr).add 1, (.int .i64 u46.2.1)), ((⟨r19, 0, none⟩ : Addr).add 2, (.int .i64 u46.2.2.1)), ((⟨r19, 0, none⟩ : Addr).add 3, (.int .u32 u46.2.2.2.1)), ((⟨r19, 0, none⟩ : Addr).add 4, (.slice u46.2.2.2.2.1.1 u46.2.2.2.2.1.2.1 u46.2.2.2.2.1.2.2))]] <|
  ptrW x0 fun (p50 : Addr) =>
  guardW ((#[(.int .u64 u46.1), (.int .i64 u46.2.1), (.int .i64 u46.2.2.1), (.int .u32 u46.2.2.2.1), (.slice u46.2.2.2.2.1.1 u46.2.2.2.2.1.2.1 u46.2.2.2.2.1.2.2)] : Array Value).size = 5) <|
  stAW (p50.add 1) [(.int .u64 u46.1), (.int .i64 u46.2.1), (.int .i64 u46.2.2.1), (.int .u32 u46.2.2.2.1), (.slice u46.2.2.2.2.1.1 u46.2.2.2.2.1.2.1 u46.2.2.2.2.1.2.2)] <|
  ptrW x0 fun (p51 : Addr) =>
  stW (p51.add 6) (.int .i64 u39) <|
  ptrW x0 fun (p52 : Addr) =>
  stW (p52.add 7) (.pointer u49) <|
  ptrW x0 fun (p53 : Addr) =>
  stW (p53.add 9) (.pointer none) <| K (.int .i64 (0 : Int))
theorem eq24 (x0 : Option Addr) (x1 : Int) (K : Value → WP) : bodyW Tryz.prog Tryz.f24 an24 false [(.pointer x0), (.int .u32 x1)] K = S24 x0 x1 K := by kernel_rfl
theorem calls24 (x0 : Option Addr) (x1 : Int) {K : Value → WP} {w : World} (h : S24 x0 x1 K w) : Calls Tryz.prog 24 #[(.pointer x0), (.int .u32 x1)] w (Ret K) := callsR_of_bodyW mixed Tryz.func24 (of_decide_eq_true (by kernel_rfl)) (by rw [eq24]; exact h)

/-- (*shadowbook/space.Space).Share -/
def an25 : Ann := (.seq .nil (.seq (.block (.seq .nil (.cond (.seq .nil .nil) (.seq .nil (.cond (.seq .nil .nil) .nil))))) (.seq .nil .nil)))
def S25 (x0 : Option Addr) (x1 : Int) (K : Value → WP) : WP := 
  splitW (Option.isNone x0) (K (.int .i64 (1 : Int))) <|
  callW Tryz.prog 54 [(.pointer x0), (.int .u32 x1)] (.one (.one .bool)) fun (u1 : Bool) =>
  splitW (!u1) (K (.int .i64 (2 : Int))) <|
  ptrW x0 fun (p2 : Addr) =>
  ldW .ptr (p2.add 8) fun (u3 : Option Addr) =>
  callW Tryz.prog 66 [(.pointer u3), (.int .u32 x1)] (.one (.one (.int .i64))) fun (u4 : Int) => K (.int .i64 u4)
theorem eq25 (x0 : Option Addr) (x1 : Int) (K : Value → WP) : bodyW Tryz.prog Tryz.f25 an25 false [(.pointer x0), (.int .u32 x1)] K = S25 x0 x1 K := by kernel_rfl
theorem calls25 (x0 : Option Addr) (x1 : Int) {K : Value → WP} {w : World} (h : S25 x0 x1 K w) : Calls Tryz.prog 25 #[(.pointer x0), (.int .u32 x1)] w (Ret K) := callsR_of_bodyW mixed Tryz.func25 (of_decide_eq_true (by kernel_rfl)) (by rw [eq25]; exact h)

/-- (*shadowbook/space.Space).Root -/
def an26 : Ann := (.seq .nil (.seq (.seq .nil (.cond (.seq .nil .nil) .nil)) (.seq .nil .nil)))
def S26 (x0 : Option Addr) (K : Value → WP) : WP := 
  splitW (Option.isNone x0) (K (.int .u32 (0 : Int))) <|
  ptrW x0 fun (p1 : Addr) =>
  ldW (.int .u32) ((p1.add 1).add 3) fun (u2 : Int) => K (.int .u32 u2)
theorem eq26 (x0 : Option Addr) (K : Value → WP) : bodyW Tryz.prog Tryz.f26 an26 false [(.pointer x0)] K = S26 x0 K := by kernel_rfl
theorem calls26 (x0 : Option Addr) {K : Value → WP} {w : World} (h : S26 x0 K w) : Calls Tryz.prog 26 #[(.pointer x0)] w (Ret K) := callsR_of_bodyW mixed Tryz.func26 (of_decide_eq_true (by kernel_rfl)) (by rw [eq26]; exact h)

/-- (*shadowbook/space.Space).Gen -/
def an27 : Ann := (.seq .nil (.seq (.seq .nil (.cond (.seq .nil .nil) .nil)) (.seq .nil .nil)))
def S27 (x0 : Option Addr) (K : Value → WP) : WP := 
  splitW (Option.isNone x0) (K (.int .u64 (0 : Int))) <|
  ptrW x0 fun (p1 : Addr) =>
  ldW (.int .u64) (p1.add 1) fun (u2 : Int) => K (.int .u64 u2)
theorem eq27 (x0 : Option Addr) (K : Value → WP) : bodyW Tryz.prog Tryz.f27 an27 false [(.pointer x0)] K = S27 x0 K := by kernel_rfl
theorem calls27 (x0 : Option Addr) {K : Value → WP} {w : World} (h : S27 x0 K w) : Calls Tryz.prog 27 #[(.pointer x0)] w (Ret K) := callsR_of_bodyW mixed Tryz.func27 (of_decide_eq_true (by kernel_rfl)) (by rw [eq27]; exact h)

/-- shadowbook/shadowbookkit.LightGeo -/
def an28 : Ann := (.seq .nil (.seq (.seq .nil (.cond (.seq .nil .nil) .nil)) (.seq .nil .nil)))
def S28 (x0_0 : Int) (x0_1 : Int) (K : Value → WP) : WP := 
  newW (.cells #[(.int .i64 x0_0), (.int .i64 x0_1)] 28) fun (r1 : Nat) =>
  ldW (.int .i64) (⟨r1, 0, none⟩ : Addr) fun (u2 : Int) =>
  splitW (decide (u2 < (128 : Int))) (K (.bool true)) <|
  ldW (.int .i64) (⟨r1, 0, none⟩ : Addr) fun (u3 : Int) =>
  splitW (decide (u3 > (4096 : Int))) (K (.bool true)) <|
  ldW (.int .i64) ((⟨r1, 0, none⟩ : Addr).add 1) fun (u4 : Int) =>
  splitW (decide (u4 < (8 : Int))) (K (.bool true)) <|
  ldW (.int .i64) ((⟨r1, 0, none⟩ : Addr).add 1) fun (u5 : Int) =>
  splitW (decide (u5 > (4096 : Int))) (K (.bool true)) <|
  ldW (.int .i64) (⟨r1, 0, none⟩ : Addr) fun (u6 : Int) =>
  splitW (decide (u6 ≤ (512 : Int))) (ldW (.int .i64) ((⟨r1, 0, none⟩ : Addr).add 1) fun (u7 : Int) => K (.bool (decide (u7 ≤ (40 : Int))))) <| K (.bool false)
theorem eq28 (x0_0 : Int) (x0_1 : Int) (K : Value → WP) : bodyW Tryz.prog Tryz.f28 an28 false [(.agg #[(.int .i64 x0_0), (.int .i64 x0_1)])] K = S28 x0_0 x0_1 K := by kernel_rfl
theorem calls28 (x0_0 : Int) (x0_1 : Int) {K : Value → WP} {w : World} (h : S28 x0_0 x0_1 K w) : Calls Tryz.prog 28 #[(.agg #[(.int .i64 x0_0), (.int .i64 x0_1)])] w (Ret K) := callsR_of_bodyW mixed Tryz.func28 (of_decide_eq_true (by kernel_rfl)) (by rw [eq28]; exact h)

/-- shadowbook/shadowbooklaw13.light -/
def an29 : Ann := (.seq .nil (.seq (.seq .nil (.block (.loop [(3, .sh (.one (.int .i64)))] [0, 1000000] (.seq (.seq .nil (.cond .nil .nil)) (.seq (.block (.seq .nil (.cond (.seq .nil .nil) .nil))) .nil))))) (.seq .nil .nil)))
def S29 (a0 : Option Addr) (n0 c0 : Nat) (K : Value → WP) : WP := 
  loopW (Int × Unit) ((0 : Int), ()) fun (y2 : Int × Unit) (I1 : (Int × Unit) → WP) =>
  splitW (decide (y2.1 < ((n0 : Nat) : Int))) (guardW (0 ≤ y2.1 ∧ y2.1 < ((n0 : Nat) : Int)) <|
  ptrW a0 fun (p3 : Addr) =>
  ldW .str ((p3.add (Int.toNat y2.1 * 5)).add 4) fun (u4 : ByteArray) =>
  splitW (decide (((u4.size : Nat) : Int) > (600 : Int))) (K (.bool false)) <| I1 ((IntKind.wrap .i64 (y2.1 + (1 : Int))), ())) <| K (.bool (decide (((n0 : Nat) : Int) ≤ (60 : Int))))
theorem eq29 (a0 : Option Addr) (n0 c0 : Nat) (K : Value → WP) : bodyW Tryz.prog Tryz.f29 an29 false [(.slice a0 n0 c0)] K = S29 a0 n0 c0 K := by kernel_rfl
theorem calls29 (a0 : Option Addr) (n0 c0 : Nat) {K : Value → WP} {w : World} (h : S29 a0 n0 c0 K w) : Calls Tryz.prog 29 #[(.slice a0 n0 c0)] w (Ret K) := callsR_of_bodyW mixed Tryz.func29 (of_decide_eq_true (by kernel_rfl)) (by rw [eq29]; exact h)

/-- shadowbook/shadowbooklaw13.begin -/
def an30 : Ann := (.seq .nil (.seq .nil (.seq (.seq .nil (.cond (.seq .nil .nil) .nil)) (.seq .nil .nil))))
def S30 (x0_0 : Int) (x0_1 : Int) (K : Value → WP) : WP := 
  newW (.cells #[(.int .i64 x0_0), (.int .i64 x0_1)] 28) fun (r1 : Nat) =>
  ldAW [(.int .i64), (.int .i64)] (⟨r1, 0, none⟩ : Addr) fun (u2 : (Int × Int × Unit)) =>
  callW Tryz.prog 8 [(.agg #[(.int .i64 u2.1), (.int .i64 u2.2.1)])] (.many [(.one .ptr), (.one .ptr)]) fun (u3 : Option Addr × Option Addr × Unit) =>
  splitW (Option.isNone u3.2.1) (K (.pointer none)) <|
  newW (.cells #[(.pointer u3.1), (.pointer u3.2.1), (.slice none 0 0), (.slice none 0 0), (.slice none 0 0), (.bool false), (.int .u32 (0 : Int))] 61) fun (r4 : Nat) => K (.pointer (some (⟨r4, 0, none⟩ : Addr)))
theorem eq30 (x0_0 : Int) (x0_1 : Int) (K : Value → WP) : bodyW Tryz.prog Tryz.f30 an30 false [(.agg #[(.int .i64 x0_0), (.int .i64 x0_1)])] K = S30 x0_0 x0_1 K := by kernel_rfl
theorem calls30 (x0_0 : Int) (x0_1 : Int) {K : Value → WP} {w : World} (h : S30 x0_0 x0_1 K w) : Calls Tryz.prog 30 #[(.agg #[(.int .i64 x0_0), (.int .i64 x0_1)])] w (Ret K) := callsR_of_bodyW mixed Tryz.func30 (of_decide_eq_true (by kernel_rfl)) (by rw [eq30]; exact h)

/-- (*shadowbook/shadowbooklaw13.Run).do -/
def an31 : Ann := (.seq .nil (.seq .nil (.join [] [1000000] (.seq .nil (.block (.join [(24, .sh (.one .bool))] [0, 3, 6, 23, 1000000] (.seq .nil (.cond .nil (.seq .nil (.cond .nil .nil)))) (.cond (.seq .nil (.seq .nil (.seq (.seq .nil (.cond .nil .nil)) (.seq .nil .nil)))) (.seq .nil (.cond (.seq .nil (.cond (.seq .nil (.seq (.seq .nil (.cond .nil .nil)) (.seq .nil .nil))) .nil)) (.seq .nil (.cond (.seq .nil (.cond (.seq .nil (.seq .nil (.seq .nil .nil))) .nil)) (.seq .nil (.cond (.seq .nil (.join [(12, .sh (.one (.int .u32)))] [0, 1000000] (.seq .nil (.cond .nil .nil)) (.seq .nil (.seq (.seq .nil (.cond .nil .nil)) (.seq .nil .nil))))) (.seq .nil (.cond (.seq .nil (.seq .nil (.seq .nil .nil))) (.seq .nil (.cond (.seq .nil .nil) (.seq .nil (.cond (.seq .nil (.seq (.seq .nil (.cond .nil .nil)) (.seq .nil .nil))) .nil)))))))))))))))) (.seq .nil .nil))))
def S31 (x0 : Option Addr) (x1_0 : Int) (x1_1 : Int) (x1_2 : Int) (x1_3 : Int) (x1_4 : ByteArray) (K : Value → WP) : WP := 
  newW (.cells #[(.int .i64 x1_0), (.int .u8 x1_1), (.int .i64 x1_2), (.int .i64 x1_3), (.string x1_4)] 59) fun (r1 : Nat) =>
  ldW (.int .i64) ((⟨r1, 0, none⟩ : Addr).add 3) fun (u2 : Int) =>
  callW Tryz.prog 67 [(.pointer x0), (.int .i64 u2)] (.one (.one (.int .i64))) fun (u3 : Int) =>
  joinW (Unit) (fun (J4 : (Unit) → WP) =>
  ldW (.int .i64) (⟨r1, 0, none⟩ : Addr) fun (u6 : Int) =>
  callW Tryz.prog 68 [(.int .i64 u6), (.int .i64 (10 : Int))] (.one (.one (.int .i64))) fun (u7 : Int) =>
  joinW (Bool × Unit) (fun (J8 : (Bool × Unit) → WP) =>
  splitW (u7 == (0 : Int)) (J8 ((u7 == (0 : Int)), ())) <|
  splitW (u7 == (1 : Int)) (J8 ((u7 == (1 : Int)), ())) <| J8 ((u7 == (2 : Int)), ())) fun (y9 : Bool × Unit) =>
  splitW y9.1 (ldAW [(.int .i64), (.int .u8), (.int .i64), (.int .i64), .str] (⟨r1, 0, none⟩ : Addr) fun (u10 : (Int × Int × Int × Int × ByteArray × Unit)) =>
  callW Tryz.prog 69 [(.pointer x0), (.agg #[(.int .i64 u10.1), (.int .u8 u10.2.1), (.int .i64 u10.2.2.1), (.int .i64 u10.2.2.2.1), (.string u10.2.2.2.2.1)])] (.one (.agg [(.int .u8), .slc, .str])) fun (u11 : (Int × (Option Addr × Nat × Nat) × ByteArray × Unit)) =>
  newW (.cells #[(.int .u8 (0 : Int)), (.slice none 0 0), (.string ByteArray.empty)] 40) fun (r12 : Nat) =>
  guardW ((#[(.int .u8 u11.1), (.slice u11.2.1.1 u11.2.1.2.1 u11.2.1.2.2), (.string u11.2.2.1)] : Array Value).size = 3) <|
  stAW (⟨r12, 0, none⟩ : Addr) [(.int .u8 u11.1), (.slice u11.2.1.1 u11.2.1.2.1 u11.2.1.2.2), (.string u11.2.2.1)] <|
  drewW <|
  ptrW x0 fun (p13 : Addr) =>
  ldW .ptr (p13.add 1) fun (u14 : Option Addr) =>
  ldAW [(.int .u8), .slc, .str] (⟨r12, 0, none⟩ : Addr) fun (u15 : (Int × (Option Addr × Nat × Nat) × ByteArray × Unit)) =>
  callW Tryz.prog 13 [(.pointer u14), (.agg #[(.int .u8 u15.1), (.slice u15.2.1.1 u15.2.1.2.1 u15.2.1.2.2), (.string u15.2.2.1)])] (.many [(.one (.int .u32)), (.one (.int .i64))]) fun (u16 : Int × Int × Unit) =>
  splitW (u16.2.1 == (0 : Int)) (drewW <|
  ptrW x0 fun (p17 : Addr) =>
  ldW .slc (p17.add 2) fun (u18 : (Option Addr × Nat × Nat)) =>
  ptrW x0 fun (p19 : Addr) =>
  ldW .slc (p19.add 2) fun (u20 : (Option Addr × Nat × Nat)) =>
  ldW .slc ((⟨r12, 0, none⟩ : Addr).add 1) fun (u21 : (Option Addr × Nat × Nat)) =>
  guardW (0 ≤ (IntKind.wrap .i64 (((u20.2.1 : Nat) : Int) - ((u21.2.1 : Nat) : Int))) ∧ (IntKind.wrap .i64 (((u20.2.1 : Nat) : Int) - ((u21.2.1 : Nat) : Int))) ≤ ((u18.2.2 : Nat) : Int)) <|
  bothW (callW Tryz.prog 70 [(.slice (cutAddr u18.1 0 u18.2.2 1) (Int.toNat (IntKind.wrap .i64 (((u20.2.1 : Nat) : Int) - ((u21.2.1 : Nat) : Int)))) u18.2.2)] (.one (.one .slc)) fun (u22 : (Option Addr × Nat × Nat)) =>
  newW (.cells #[(.int .u32 u16.1)] 35) fun (r23 : Nat) =>
  heldW [[(((⟨r12, 0, none⟩ : Addr).add 1), (.slice u21.1 u21.2.1 u21.2.2))], [((p19.add 2), (.slice u20.1 u20.2.1 u20.2.2))], [((p17.add 2), (.slice u18.1 u18.2.1 u18.2.2))]] <|
  runW Tryz.prog (Builtin.append_ #[38, 38] 38 #[(.slice u22.1 u22.2.1 u22.2.2), (.slice (some (⟨r23, 0, none⟩ : Addr)) 1 1)]) .slc fun (u24 : (Option Addr × Nat × Nat)) =>
  ptrW x0 fun (p25 : Addr) =>
  stW (p25.add 2) (.slice u24.1 u24.2.1 u24.2.2) <| K (.tuple #[(.int .u32 u16.1), (.int .i64 u16.2.1)])) <|
  newW (.cells #[(.int .u32 u16.1)] 35) fun (r26 : Nat) =>
  heldW [[(((⟨r12, 0, none⟩ : Addr).add 1), (.slice u21.1 u21.2.1 u21.2.2))], [((p19.add 2), (.slice u20.1 u20.2.1 u20.2.2))], [((p17.add 2), (.slice u18.1 u18.2.1 u18.2.2))]] <|
  callW Tryz.prog 70 [(.slice (cutAddr u18.1 0 u18.2.2 1) (Int.toNat (IntKind.wrap .i64 (((u20.2.1 : Nat) : Int) - ((u21.2.1 : Nat) : Int)))) u18.2.2)] (.one (.one .slc)) fun (u27 : (Option Addr × Nat × Nat)) =>
  runW Tryz.prog (Builtin.append_ #[38, 38] 38 #[(.slice u27.1 u27.2.1 u27.2.2), (.slice (some (⟨r26, 0, none⟩ : Addr)) 1 1)]) .slc fun (u28 : (Option Addr × Nat × Nat)) =>
  ptrW x0 fun (p29 : Addr) =>
  stW (p29.add 2) (.slice u28.1 u28.2.1 u28.2.2) <| K (.tuple #[(.int .u32 u16.1), (.int .i64 u16.2.1)])) <| K (.tuple #[(.int .u32 u16.1), (.int .i64 u16.2.1)])) <|
  splitW (u7 == (4 : Int)) (splitW (decide (u3 ≥ (0 : Int))) (drewW <|
  ptrW x0 fun (p30 : Addr) =>
  ldW .ptr (p30.add 1) fun (u31 : Option Addr) =>
  ptrW x0 fun (p32 : Addr) =>
  ldW .slc (p32.add 2) fun (u33 : (Option Addr × Nat × Nat)) =>
  guardW (0 ≤ u3 ∧ u3 < ((u33.2.1 : Nat) : Int)) <|
  ptrW u33.1 fun (p34 : Addr) =>
  ldW (.int .u32) (p34.add (Int.toNat u3 * 1)) fun (u35 : Int) =>
  callW Tryz.prog 25 [(.pointer u31), (.int .u32 u35)] (.one (.one (.int .i64))) fun (u36 : Int) =>
  splitW (u36 == (0 : Int)) (drewW <|
  ptrW x0 fun (p37 : Addr) =>
  ldW .slc (p37.add 2) fun (u38 : (Option Addr × Nat × Nat)) =>
  ptrW x0 fun (p39 : Addr) =>
  ldW .slc (p39.add 2) fun (u40 : (Option Addr × Nat × Nat)) =>
  guardW (0 ≤ u3 ∧ u3 < ((u40.2.1 : Nat) : Int)) <|
  ptrW u40.1 fun (p41 : Addr) =>
  ldW (.int .u32) (p41.add (Int.toNat u3 * 1)) fun (u42 : Int) =>
  bothW (callW Tryz.prog 70 [(.slice u38.1 u38.2.1 u38.2.2)] (.one (.one .slc)) fun (u43 : (Option Addr × Nat × Nat)) =>
  heldW [[((p41.add (Int.toNat u3 * 1)), (.int .u32 u42))], [((p39.add 2), (.slice u40.1 u40.2.1 u40.2.2))]] <|
  newW (.cells #[(.int .u32 u42)] 35) fun (r44 : Nat) =>
  heldW [[((p37.add 2), (.slice u38.1 u38.2.1 u38.2.2))]] <|
  runW Tryz.prog (Builtin.append_ #[38, 38] 38 #[(.slice u43.1 u43.2.1 u43.2.2), (.slice (some (⟨r44, 0, none⟩ : Addr)) 1 1)]) .slc fun (u45 : (Option Addr × Nat × Nat)) =>
  ptrW x0 fun (p46 : Addr) =>
  stW (p46.add 2) (.slice u45.1 u45.2.1 u45.2.2) <| K (.tuple #[(.int .u32 (0 : Int)), (.int .i64 u36)])) <|
  newW (.cells #[(.int .u32 u42)] 35) fun (r47 : Nat) =>
  heldW [[((p37.add 2), (.slice u38.1 u38.2.1 u38.2.2))]] <|
  callW Tryz.prog 70 [(.slice u38.1 u38.2.1 u38.2.2)] (.one (.one .slc)) fun (u48 : (Option Addr × Nat × Nat)) =>
  heldW [[((p41.add (Int.toNat u3 * 1)), (.int .u32 u42))], [((p39.add 2), (.slice u40.1 u40.2.1 u40.2.2))]] <|
  runW Tryz.prog (Builtin.append_ #[38, 38] 38 #[(.slice u48.1 u48.2.1 u48.2.2), (.slice (some (⟨r47, 0, none⟩ : Addr)) 1 1)]) .slc fun (u49 : (Option Addr × Nat × Nat)) =>
  ptrW x0 fun (p50 : Addr) =>
  stW (p50.add 2) (.slice u49.1 u49.2.1 u49.2.2) <| K (.tuple #[(.int .u32 (0 : Int)), (.int .i64 u36)])) <| K (.tuple #[(.int .u32 (0 : Int)), (.int .i64 u36)])) <| J4 ()) <|
  splitW (u7 == (5 : Int)) (splitW (decide (u3 ≥ (0 : Int))) (drewW <|
  ptrW x0 fun (p51 : Addr) =>
  ldW .ptr (p51.add 1) fun (u52 : Option Addr) =>
  ptrW x0 fun (p53 : Addr) =>
  ldW .slc (p53.add 2) fun (u54 : (Option Addr × Nat × Nat)) =>
  guardW (0 ≤ u3 ∧ u3 < ((u54.2.1 : Nat) : Int)) <|
  ptrW u54.1 fun (p55 : Addr) =>
  ldW (.int .u32) (p55.add (Int.toNat u3 * 1)) fun (u56 : Int) =>
  callW Tryz.prog 16 [(.pointer u52), (.int .u32 u56)] (.one (.one (.int .i64))) fun (u57 : Int) =>
  drewW <|
  ptrW x0 fun (p58 : Addr) =>
  ldW .slc (p58.add 2) fun (u59 : (Option Addr × Nat × Nat)) =>
  guardW (0 ≤ u3 ∧ u3 ≤ ((u59.2.2 : Nat) : Int)) <|
  ptrW x0 fun (p60 : Addr) =>
  ldW .slc (p60.add 2) fun (u61 : (Option Addr × Nat × Nat)) =>
  guardW (0 ≤ (IntKind.wrap .i64 (u3 + (1 : Int))) ∧ (IntKind.wrap .i64 (u3 + (1 : Int))) ≤ ((u61.2.1 : Nat) : Int)) <|
  callW Tryz.prog 70 [(.slice (cutAddr u59.1 0 u59.2.2 1) (Int.toNat u3) u59.2.2)] (.one (.one .slc)) fun (u62 : (Option Addr × Nat × Nat)) =>
  heldW [[((p60.add 2), (.slice u61.1 u61.2.1 u61.2.2))]] <|
  runW Tryz.prog (Builtin.append_ #[38, 38] 38 #[(.slice u62.1 u62.2.1 u62.2.2), (.slice (cutAddr u61.1 (Int.toNat (IntKind.wrap .i64 (u3 + (1 : Int)))) u61.2.2 1) (u61.2.1 - (Int.toNat (IntKind.wrap .i64 (u3 + (1 : Int))))) (u61.2.2 - (Int.toNat (IntKind.wrap .i64 (u3 + (1 : Int))))))]) .slc fun (u63 : (Option Addr × Nat × Nat)) =>
  ptrW x0 fun (p64 : Addr) =>
  stW (p64.add 2) (.slice u63.1 u63.2.1 u63.2.2) <| K (.tuple #[(.int .u32 (0 : Int)), (.int .i64 u57)])) <| J4 ()) <|
  splitW (u7 == (6 : Int)) (joinW (Int × Unit) (fun (J65 : (Int × Unit) → WP) =>
  splitW (decide (u3 ≥ (0 : Int))) (ldW (.int .i64) ((⟨r1, 0, none⟩ : Addr).add 3) fun (u67 : Int) =>
  splitW (decide (u67 ≥ (0 : Int))) (ptrW x0 fun (p68 : Addr) =>
  ldW .slc (p68.add 2) fun (u69 : (Option Addr × Nat × Nat)) =>
  guardW (0 ≤ u3 ∧ u3 < ((u69.2.1 : Nat) : Int)) <|
  ptrW u69.1 fun (p70 : Addr) =>
  ldW (.int .u32) (p70.add (Int.toNat u3 * 1)) fun (u71 : Int) => J65 (u71, ())) <| J65 ((0 : Int), ())) <| J65 ((0 : Int), ())) fun (y66 : Int × Unit) =>
  ptrW x0 fun (p72 : Addr) =>
  ldW .ptr (p72.add 1) fun (u73 : Option Addr) =>
  callW Tryz.prog 24 [(.pointer u73), (.int .u32 y66.1)] (.one (.one (.int .i64))) fun (u74 : Int) =>
  splitW (u74 == (0 : Int)) (ptrW x0 fun (p75 : Addr) =>
  ldW .slc (p75.add 2) fun (u76 : (Option Addr × Nat × Nat)) =>
  callW Tryz.prog 70 [(.slice u76.1 u76.2.1 u76.2.2)] (.one (.one .slc)) fun (u77 : (Option Addr × Nat × Nat)) =>
  ptrW x0 fun (p78 : Addr) =>
  stW (p78.add 3) (.slice u77.1 u77.2.1 u77.2.2) <|
  ptrW x0 fun (p79 : Addr) =>
  stW (p79.add 5) (.bool false) <|
  ptrW x0 fun (p80 : Addr) =>
  stW (p80.add 6) (.int .u32 y66.1) <| K (.tuple #[(.int .u32 y66.1), (.int .i64 u74)])) <| K (.tuple #[(.int .u32 y66.1), (.int .i64 u74)])) <|
  splitW (u7 == (7 : Int)) (ptrW x0 fun (p81 : Addr) =>
  ldW .ptr (p81.add 1) fun (u82 : Option Addr) =>
  callW Tryz.prog 21 [(.pointer u82)] (.one (.one (.int .i64))) fun (u83 : Int) =>
  ptrW x0 fun (p84 : Addr) =>
  ldW .slc (p84.add 3) fun (u85 : (Option Addr × Nat × Nat)) =>
  callW Tryz.prog 70 [(.slice u85.1 u85.2.1 u85.2.2)] (.one (.one .slc)) fun (u86 : (Option Addr × Nat × Nat)) =>
  ptrW x0 fun (p87 : Addr) =>
  stW (p87.add 2) (.slice u86.1 u86.2.1 u86.2.2) <|
  ptrW x0 fun (p88 : Addr) =>
  stW (p88.add 5) (.bool false) <| K (.tuple #[(.int .u32 (0 : Int)), (.int .i64 u83)])) <|
  splitW (u7 == (8 : Int)) (ldW (.int .i64) ((⟨r1, 0, none⟩ : Addr).add 3) fun (u89 : Int) =>
  callW Tryz.prog 71 [(.pointer x0), (.int .i64 u89)] (.one (.one (.int .i64))) fun (u90 : Int) => K (.tuple #[(.int .u32 (0 : Int)), (.int .i64 u90)])) <|
  splitW (u7 == (9 : Int)) (ptrW x0 fun (p91 : Addr) =>
  ldW .ptr p91 fun (u92 : Option Addr) =>
  callW Tryz.prog 12 [(.pointer u92)] (.many [(.one .ptr), (.one (.int .i64))]) fun (u93 : Option Addr × Int × Unit) =>
  splitW (u93.2.1 == (0 : Int)) (ptrW x0 fun (p94 : Addr) =>
  ldW .slc (p94.add 3) fun (u95 : (Option Addr × Nat × Nat)) =>
  callW Tryz.prog 70 [(.slice u95.1 u95.2.1 u95.2.2)] (.one (.one .slc)) fun (u96 : (Option Addr × Nat × Nat)) =>
  ptrW x0 fun (p97 : Addr) =>
  stW (p97.add 1) (.pointer u93.1) <|
  ptrW x0 fun (p98 : Addr) =>
  stW (p98.add 2) (.slice u96.1 u96.2.1 u96.2.2) <|
  ptrW x0 fun (p99 : Addr) =>
  stW (p99.add 5) (.bool false) <| K (.tuple #[(.int .u32 (0 : Int)), (.int .i64 u93.2.1)])) <| K (.tuple #[(.int .u32 (0 : Int)), (.int .i64 u93.2.1)])) <| J4 ()) fun (y5 : Unit) => K (.tuple #[(.int .u32 (0 : Int)), (.int .i64 (0 : Int))])
theorem eq31 (x0 : Option Addr) (x1_0 : Int) (x1_1 : Int) (x1_2 : Int) (x1_3 : Int) (x1_4 : ByteArray) (K : Value → WP) : bodyW Tryz.prog Tryz.f31 an31 false [(.pointer x0), (.agg #[(.int .i64 x1_0), (.int .u8 x1_1), (.int .i64 x1_2), (.int .i64 x1_3), (.string x1_4)])] K = S31 x0 x1_0 x1_1 x1_2 x1_3 x1_4 K := by kernel_rfl
theorem calls31 (x0 : Option Addr) (x1_0 : Int) (x1_1 : Int) (x1_2 : Int) (x1_3 : Int) (x1_4 : ByteArray) {K : Value → WP} {w : World} (h : S31 x0 x1_0 x1_1 x1_2 x1_3 x1_4 K w) : Calls Tryz.prog 31 #[(.pointer x0), (.agg #[(.int .i64 x1_0), (.int .u8 x1_1), (.int .i64 x1_2), (.int .i64 x1_3), (.string x1_4)])] w (Ret K) := callsR_of_bodyW mixed Tryz.func31 (of_decide_eq_true (by kernel_rfl)) (by rw [eq31]; exact h)

/-- (*shadowbook/device.Device).Image -/
def an32 : Ann := (.seq .nil (.seq (.seq .nil (.cond (.seq .nil .nil) .nil)) (.seq .nil .nil)))
def S32 (x0 : Option Addr) (K : Value → WP) : WP := 
  splitW (Option.isNone x0) (K (.string (ByteArray.mk #[]))) <|
  ptrW x0 fun (p1 : Addr) =>
  ldW .slc (p1.add 2) fun (u2 : (Option Addr × Nat × Nat)) =>
  callW Tryz.prog 72 [(.slice u2.1 u2.2.1 u2.2.2), (.string (ByteArray.mk #[]))] (.one (.one .str)) fun (u3 : ByteArray) => K (.string u3)
theorem eq32 (x0 : Option Addr) (K : Value → WP) : bodyW Tryz.prog Tryz.f32 an32 false [(.pointer x0)] K = S32 x0 K := by kernel_rfl
theorem calls32 (x0 : Option Addr) {K : Value → WP} {w : World} (h : S32 x0 K w) : Calls Tryz.prog 32 #[(.pointer x0)] w (Ret K) := callsR_of_bodyW mixed Tryz.func32 (of_decide_eq_true (by kernel_rfl)) (by rw [eq32]; exact h)

/-- (*shadowbook/device.Device).Pending -/
def an33 : Ann := (.seq .nil (.seq (.seq .nil (.cond (.seq .nil .nil) .nil)) (.seq .nil .nil)))
def S33 (x0 : Option Addr) (K : Value → WP) : WP := 
  splitW (Option.isNone x0) (K (.slice none 0 0)) <|
  ptrW x0 fun (p1 : Addr) =>
  ldW .slc (p1.add 3) fun (u2 : (Option Addr × Nat × Nat)) =>
  callW Tryz.prog 73 [(.slice u2.1 u2.2.1 u2.2.2)] (.one (.one .slc)) fun (u3 : (Option Addr × Nat × Nat)) => K (.slice u3.1 u3.2.1 u3.2.2)
theorem eq33 (x0 : Option Addr) (K : Value → WP) : bodyW Tryz.prog Tryz.f33 an33 false [(.pointer x0)] K = S33 x0 K := by kernel_rfl
theorem calls33 (x0 : Option Addr) {K : Value → WP} {w : World} (h : S33 x0 K w) : Calls Tryz.prog 33 #[(.pointer x0)] w (Ret K) := callsR_of_bodyW mixed Tryz.func33 (of_decide_eq_true (by kernel_rfl)) (by rw [eq33]; exact h)

/-- shadowbook/shadowbookkit.SamePages -/
def an36 : Ann := (.seq .nil (.seq .nil .nil))
def S36 (x0_0 : Int) (a0_1 : Option Addr) (n0_1 c0_1 : Nat) (x0_2 : ByteArray) (x1_0 : Int) (a1_1 : Option Addr) (n1_1 c1_1 : Nat) (x1_2 : ByteArray) (K : Value → WP) : WP := 
  newW (.cells #[(.int .u8 x0_0), (.slice a0_1 n0_1 c0_1), (.string x0_2)] 40) fun (r1 : Nat) =>
  newW (.cells #[(.int .u8 x1_0), (.slice a1_1 n1_1 c1_1), (.string x1_2)] 40) fun (r2 : Nat) =>
  ldW (.int .u8) (⟨r1, 0, none⟩ : Addr) fun (u3 : Int) =>
  ldW (.int .u8) (⟨r2, 0, none⟩ : Addr) fun (u4 : Int) =>
  splitW (u3 == u4) (ldW .str ((⟨r1, 0, none⟩ : Addr).add 2) fun (u5 : ByteArray) =>
  ldW .str ((⟨r2, 0, none⟩ : Addr).add 2) fun (u6 : ByteArray) =>
  splitW (u5.toList == u6.toList) (ldW .slc ((⟨r1, 0, none⟩ : Addr).add 1) fun (u7 : (Option Addr × Nat × Nat)) =>
  ldW .slc ((⟨r2, 0, none⟩ : Addr).add 1) fun (u8 : (Option Addr × Nat × Nat)) =>
  callW Tryz.prog 77 [(.slice u7.1 u7.2.1 u7.2.2), (.slice u8.1 u8.2.1 u8.2.2)] (.one (.one .bool)) fun (u9 : Bool) => K (.bool u9)) <| K (.bool false)) <| K (.bool false)
theorem eq36 (x0_0 : Int) (a0_1 : Option Addr) (n0_1 c0_1 : Nat) (x0_2 : ByteArray) (x1_0 : Int) (a1_1 : Option Addr) (n1_1 c1_1 : Nat) (x1_2 : ByteArray) (K : Value → WP) : bodyW Tryz.prog Tryz.f36 an36 false [(.agg #[(.int .u8 x0_0), (.slice a0_1 n0_1 c0_1), (.string x0_2)]), (.agg #[(.int .u8 x1_0), (.slice a1_1 n1_1 c1_1), (.string x1_2)])] K = S36 x0_0 a0_1 n0_1 c0_1 x0_2 x1_0 a1_1 n1_1 c1_1 x1_2 K := by kernel_rfl
theorem calls36 (x0_0 : Int) (a0_1 : Option Addr) (n0_1 c0_1 : Nat) (x0_2 : ByteArray) (x1_0 : Int) (a1_1 : Option Addr) (n1_1 c1_1 : Nat) (x1_2 : ByteArray) {K : Value → WP} {w : World} (h : S36 x0_0 a0_1 n0_1 c0_1 x0_2 x1_0 a1_1 n1_1 c1_1 x1_2 K w) : Calls Tryz.prog 36 #[(.agg #[(.int .u8 x0_0), (.slice a0_1 n0_1 c0_1), (.string x0_2)]), (.agg #[(.int .u8 x1_0), (.slice a1_1 n1_1 c1_1), (.string x1_2)])] w (Ret K) := callsR_of_bodyW mixed Tryz.func36 (of_decide_eq_true (by kernel_rfl)) (by rw [eq36]; exact h)

/-- shadowbook/counts.New -/
def an37 : Ann := (.seq .nil (.seq (.seq .nil (.cond (.seq .nil .nil) .nil)) (.seq .nil (.seq .nil (.seq .nil .nil)))))
def S37 (x0_0 : Int) (x0_1 : Int) (K : Value → WP) : WP := 
  newW (.cells #[(.int .i64 x0_0), (.int .i64 x0_1)] 28) fun (r1 : Nat) =>
  ldAW [(.int .i64), (.int .i64)] (⟨r1, 0, none⟩ : Addr) fun (u2 : (Int × Int × Unit)) =>
  callW Tryz.prog 45 [(.agg #[(.int .i64 u2.1), (.int .i64 u2.2.1)])] (.one (.one (.int .i64))) fun (u3 : Int) =>
  splitW (u3 != (0 : Int)) (K (.tuple #[(.pointer none), (.int .i64 (2 : Int))])) <|
  drewW <|
  ldAW [(.int .i64), (.int .i64)] (⟨r1, 0, none⟩ : Addr) fun (u4 : (Int × Int × Unit)) =>
  ldW (.int .i64) ((⟨r1, 0, none⟩ : Addr).add 1) fun (u5 : Int) =>
  runW Tryz.prog (Instr.makeSlice 126 (.int .i64 u5) (.int .i64 u5)) .slc fun (u6 : Option Addr × Nat × Nat) =>
  heldW [[((⟨r1, 0, none⟩ : Addr).add 0, (.int .i64 u4.1)), ((⟨r1, 0, none⟩ : Addr).add 1, (.int .i64 u4.2.1))]] <|
  newW (.cells #[(.int .i64 u4.1), (.int .i64 u4.2.1), (.slice u6.1 u6.2.1 u6.2.2)] 128) fun (r7 : Nat) =>
  drewW <|
  ptrW (some (⟨r7, 0, none⟩ : Addr)) fun (p8 : Addr) =>
  ldW .slc (p8.add 2) fun (u9 : (Option Addr × Nat × Nat)) =>
  ptrW (some (⟨r7, 0, none⟩ : Addr)) fun (p10 : Addr) =>
  ldW .slc (p10.add 2) fun (u11 : (Option Addr × Nat × Nat)) =>
  guardW (0 ≤ (0 : Int) ∧ (0 : Int) < ((u9.2.1 : Nat) : Int)) <|
  ptrW u9.1 fun (p12 : Addr) =>
  stW (p12.add (Int.toNat (0 : Int) * 1)) (.int .u16 (1 : Int)) <|
  guardW (0 ≤ (1 : Int) ∧ (1 : Int) < ((u11.2.1 : Nat) : Int)) <|
  ptrW u11.1 fun (p13 : Addr) =>
  stW (p13.add (Int.toNat (1 : Int) * 1)) (.int .u16 (1 : Int)) <| K (.tuple #[(.pointer (some (⟨r7, 0, none⟩ : Addr))), (.int .i64 (0 : Int))])
theorem eq37 (x0_0 : Int) (x0_1 : Int) (K : Value → WP) : bodyW Tryz.prog Tryz.f37 an37 false [(.agg #[(.int .i64 x0_0), (.int .i64 x0_1)])] K = S37 x0_0 x0_1 K := by kernel_rfl
theorem calls37 (x0_0 : Int) (x0_1 : Int) {K : Value → WP} {w : World} (h : S37 x0_0 x0_1 K w) : Calls Tryz.prog 37 #[(.agg #[(.int .i64 x0_0), (.int .i64 x0_1)])] w (Ret K) := callsR_of_bodyW mixed Tryz.func37 (of_decide_eq_true (by kernel_rfl)) (by rw [eq37]; exact h)

/-- (*shadowbook/device.Device).Geo -/
def an38 : Ann := (.seq .nil (.seq (.seq .nil (.cond (.seq .nil .nil) .nil)) (.seq .nil .nil)))
def S38 (x0 : Option Addr) (K : Value → WP) : WP := 
  newW (.cells #[(.int .i64 (0 : Int)), (.int .i64 (0 : Int))] 28) fun (r1 : Nat) =>
  splitW (Option.isNone x0) (guardW ((#[(.int .i64 (0 : Int)), (.int .i64 (0 : Int))] : Array Value).size = 2) <|
  stAW (⟨r1, 0, none⟩ : Addr) [(.int .i64 (0 : Int)), (.int .i64 (0 : Int))] <|
  ldAW [(.int .i64), (.int .i64)] (⟨r1, 0, none⟩ : Addr) fun (u2 : (Int × Int × Unit)) => K (.agg #[(.int .i64 u2.1), (.int .i64 u2.2.1)])) <|
  ptrW x0 fun (p3 : Addr) =>
  ldAW [(.int .i64), (.int .i64)] p3 fun (u4 : (Int × Int × Unit)) =>
  guardW ((#[(.int .i64 u4.1), (.int .i64 u4.2.1)] : Array Value).size = 2) <|
  stAW (⟨r1, 0, none⟩ : Addr) [(.int .i64 u4.1), (.int .i64 u4.2.1)] <|
  ldAW [(.int .i64), (.int .i64)] (⟨r1, 0, none⟩ : Addr) fun (u5 : (Int × Int × Unit)) => K (.agg #[(.int .i64 u5.1), (.int .i64 u5.2.1)])
theorem eq38 (x0 : Option Addr) (K : Value → WP) : bodyW Tryz.prog Tryz.f38 an38 false [(.pointer x0)] K = S38 x0 K := by kernel_rfl
theorem calls38 (x0 : Option Addr) {K : Value → WP} {w : World} (h : S38 x0 K w) : Calls Tryz.prog 38 #[(.pointer x0)] w (Ret K) := callsR_of_bodyW mixed Tryz.func38 (of_decide_eq_true (by kernel_rfl)) (by rw [eq38]; exact h)

/-- shadowbook/super.Pages -/
def an39 : Ann := (.seq .nil (.seq (.seq .nil (.cond (.seq .nil .nil) .nil)) (.seq .nil (.seq .nil .nil))))
def S39 (x0_0 : Int) (x0_1 : Int) (K : Value → WP) : WP := 
  newW (.cells #[(.int .i64 x0_0), (.int .i64 x0_1)] 28) fun (r1 : Nat) =>
  ldAW [(.int .i64), (.int .i64)] (⟨r1, 0, none⟩ : Addr) fun (u2 : (Int × Int × Unit)) =>
  callW Tryz.prog 45 [(.agg #[(.int .i64 u2.1), (.int .i64 u2.2.1)])] (.one (.one (.int .i64))) fun (u3 : Int) =>
  splitW (u3 != (0 : Int)) (K (.int .i64 (0 : Int))) <|
  ldW (.int .i64) (⟨r1, 0, none⟩ : Addr) fun (u4 : Int) =>
  callW Tryz.prog 64 [(.int .i64 u4)] (.one (.one (.int .i64))) fun (u5 : Int) =>
  ldW (.int .i64) ((⟨r1, 0, none⟩ : Addr).add 1) fun (u6 : Int) =>
  guardW (u5 ≠ 0) <| K (.int .i64 (IntKind.wrap .i64 (Int.tdiv (IntKind.wrap .i64 ((IntKind.wrap .i64 ((IntKind.wrap .i64 ((2 : Int) * u6)) + u5)) - (1 : Int))) u5)))
theorem eq39 (x0_0 : Int) (x0_1 : Int) (K : Value → WP) : bodyW Tryz.prog Tryz.f39 an39 false [(.agg #[(.int .i64 x0_0), (.int .i64 x0_1)])] K = S39 x0_0 x0_1 K := by kernel_rfl
theorem calls39 (x0_0 : Int) (x0_1 : Int) {K : Value → WP} {w : World} (h : S39 x0_0 x0_1 K w) : Calls Tryz.prog 39 #[(.agg #[(.int .i64 x0_0), (.int .i64 x0_1)])] w (Ret K) := callsR_of_bodyW mixed Tryz.func39 (of_decide_eq_true (by kernel_rfl)) (by rw [eq39]; exact h)

/-- (*shadowbook/counts.Counts).Take -/
def an40 : Ann := (.seq .nil (.join [] [0, 1, 1000000] (.block (.seq .nil (.cond (.seq .nil .nil) (.seq .nil (.cond (.seq .nil .nil) .nil))))) (.seq (.seq .nil (.block (.loop [(30, .sh (.one (.int .i64)))] [0, 1, 28, 29, 1000000] (.seq .nil (.seq (.cond .nil .nil) (.seq (.block (.seq .nil (.seq .nil (.cond (.seq .nil (.seq .nil .nil)) .nil)))) .nil)))))) (.seq .nil .nil))))
def S40 (x0 : Option Addr) (x1 : Option Addr) (K : Value → WP) : WP := 
  joinW (Unit) (fun (J1 : (Unit) → WP) =>
  splitW (Option.isNone x0) (K (.tuple #[(.int .u32 (0 : Int)), (.int .i64 (1 : Int))])) <|
  drewW <|
  splitW (!(Option.isNone x1)) (ptrW x1 fun (p3 : Addr) =>
  ldAW [(.int .i64), (.int .i64)] p3 fun (u4 : (Int × Int × Unit)) =>
  ptrW x0 fun (p5 : Addr) =>
  ldAW [(.int .i64), (.int .i64)] p5 fun (u6 : (Int × Int × Unit)) =>
  eqW Tryz.prog (eqS .neq 28 (.tmp 18) (.tmp 22) (.agg #[(.int .i64 u4.1), (.int .i64 u4.2.1)]) (.agg #[(.int .i64 u6.1), (.int .i64 u6.2.1)])) fun (b7 : Bool) =>
  splitW b7 (K (.tuple #[(.int .u32 (0 : Int)), (.int .i64 (2 : Int))])) <| J1 ()) <| J1 ()) fun (y2 : Unit) =>
  ptrW x0 fun (p8 : Addr) =>
  ldW .slc (p8.add 2) fun (u9 : (Option Addr × Nat × Nat)) =>
  loopW (Int × Unit) ((0 : Int), ()) fun (y11 : Int × Unit) (I10 : (Int × Unit) → WP) =>
  splitW (decide (y11.1 < ((u9.2.1 : Nat) : Int))) (guardW (0 ≤ y11.1 ∧ y11.1 < ((u9.2.1 : Nat) : Int)) <|
  ptrW u9.1 fun (p12 : Addr) =>
  ldW (.int .u16) (p12.add (Int.toNat y11.1 * 1)) fun (u13 : Int) =>
  splitW (u13 == (0 : Int)) (callW Tryz.prog 56 [(.pointer x1), (.int .u32 (IntKind.wrap .u32 y11.1))] (.one (.one (.int .i64))) fun (u14 : Int) =>
  splitW (u14 == (0 : Int)) (ptrW x0 fun (p15 : Addr) =>
  ldW .slc (p15.add 2) fun (u16 : (Option Addr × Nat × Nat)) =>
  guardW (0 ≤ y11.1 ∧ y11.1 < ((u16.2.1 : Nat) : Int)) <|
  ptrW u16.1 fun (p17 : Addr) =>
  stW (p17.add (Int.toNat y11.1 * 1)) (.int .u16 (1 : Int)) <| K (.tuple #[(.int .u32 (IntKind.wrap .u32 y11.1)), (.int .i64 (0 : Int))])) <| I10 ((IntKind.wrap .i64 (y11.1 + (1 : Int))), ())) <| I10 ((IntKind.wrap .i64 (y11.1 + (1 : Int))), ())) <| K (.tuple #[(.int .u32 (0 : Int)), (.int .i64 (9 : Int))])
theorem eq40 (x0 : Option Addr) (x1 : Option Addr) (K : Value → WP) : bodyW Tryz.prog Tryz.f40 an40 false [(.pointer x0), (.pointer x1)] K = S40 x0 x1 K := by kernel_rfl
theorem calls40 (x0 : Option Addr) (x1 : Option Addr) {K : Value → WP} {w : World} (h : S40 x0 x1 K w) : Calls Tryz.prog 40 #[(.pointer x0), (.pointer x1)] w (Ret K) := callsR_of_bodyW mixed Tryz.func40 (of_decide_eq_true (by kernel_rfl)) (by rw [eq40]; exact h)

/-- shadowbook/super.Check -/
def an41 : Ann := (.seq .nil (.seq .nil (.join [] [1, 3, 1000000] (.seq .nil (.cond (.seq .nil .nil) .nil)) (.seq (.seq .nil (.block (.loop [(40, .sh (.one (.int .i64)))] [1, 3, 38, 39, 1000000] (.seq .nil (.seq (.cond .nil .nil) (.seq (.block (.seq .nil (.seq .nil (.cond (.seq .nil .nil) .nil)))) .nil)))))) (.seq (.seq .nil (.cond (.seq .nil .nil) .nil)) (.seq .nil .nil))))))
def S41 (x0_0 : Int) (x0_1 : Int) (x0_2 : Int) (x0_3 : Int) (a0_4 : Option Addr) (n0_4 c0_4 : Nat) (K : Value → WP) : WP := 
  newW (.cells #[(.int .u64 x0_0), (.int .i64 x0_1), (.int .i64 x0_2), (.int .u32 x0_3), (.slice a0_4 n0_4 c0_4)] 78) fun (r1 : Nat) =>
  joinW (Unit) (fun (J2 : (Unit) → WP) =>
  drewW <|
  ldAW [(.int .i64), (.int .i64)] ((⟨r1, 0, none⟩ : Addr).add 1) fun (u4 : (Int × Int × Unit)) =>
  callW Tryz.prog 45 [(.agg #[(.int .i64 u4.1), (.int .i64 u4.2.1)])] (.one (.one (.int .i64))) fun (u5 : Int) =>
  splitW (u5 != (0 : Int)) (K (.int .i64 (2 : Int))) <|
  ldW (.int .u64) (⟨r1, 0, none⟩ : Addr) fun (u6 : Int) =>
  splitW (u6 == (0 : Int)) (K (.int .i64 (2 : Int))) <|
  ldW (.int .u32) ((⟨r1, 0, none⟩ : Addr).add 3) fun (u7 : Int) =>
  splitW (u7 != (0 : Int)) (ldW (.int .u32) ((⟨r1, 0, none⟩ : Addr).add 3) fun (u8 : Int) =>
  callVW Tryz.prog (.func (.func 78) #[] #[(.pointer (some (⟨r1, 0, none⟩ : Addr)))]) [(.int .u32 u8)] (.one (.one .bool)) fun (u9 : Bool) =>
  splitW (!u9) (K (.int .i64 (2 : Int))) <|
  ldW .slc ((⟨r1, 0, none⟩ : Addr).add 4) fun (u10 : (Option Addr × Nat × Nat)) =>
  ldAW [(.int .i64), (.int .i64)] ((⟨r1, 0, none⟩ : Addr).add 1) fun (u11 : (Int × Int × Unit)) =>
  callW Tryz.prog 39 [(.agg #[(.int .i64 u11.1), (.int .i64 u11.2.1)])] (.one (.one (.int .i64))) fun (u12 : Int) =>
  heldW [[(((⟨r1, 0, none⟩ : Addr).add 4), (.slice u10.1 u10.2.1 u10.2.2))]] <|
  splitW (((u10.2.1 : Nat) : Int) != u12) (K (.int .i64 (2 : Int))) <| J2 ()) <|
  ldW .slc ((⟨r1, 0, none⟩ : Addr).add 4) fun (u13 : (Option Addr × Nat × Nat)) =>
  ldAW [(.int .i64), (.int .i64)] ((⟨r1, 0, none⟩ : Addr).add 1) fun (u14 : (Int × Int × Unit)) =>
  callW Tryz.prog 39 [(.agg #[(.int .i64 u14.1), (.int .i64 u14.2.1)])] (.one (.one (.int .i64))) fun (u15 : Int) =>
  heldW [[(((⟨r1, 0, none⟩ : Addr).add 4), (.slice u13.1 u13.2.1 u13.2.2))]] <|
  splitW (((u13.2.1 : Nat) : Int) != u15) (K (.int .i64 (2 : Int))) <| J2 ()) fun (y3 : Unit) =>
  ldW .slc ((⟨r1, 0, none⟩ : Addr).add 4) fun (u16 : (Option Addr × Nat × Nat)) =>
  loopW (Int × Unit) ((0 : Int), ()) fun (y18 : Int × Unit) (I17 : (Int × Unit) → WP) =>
  splitW (decide (y18.1 < ((u16.2.1 : Nat) : Int))) (guardW (0 ≤ y18.1 ∧ y18.1 < ((u16.2.1 : Nat) : Int)) <|
  ptrW u16.1 fun (p19 : Addr) =>
  ldW (.int .u32) (p19.add (Int.toNat y18.1 * 1)) fun (u20 : Int) =>
  callVW Tryz.prog (.func (.func 78) #[] #[(.pointer (some (⟨r1, 0, none⟩ : Addr)))]) [(.int .u32 u20)] (.one (.one .bool)) fun (u21 : Bool) =>
  splitW (!u21) (K (.int .i64 (2 : Int))) <|
  ldW (.int .u32) ((⟨r1, 0, none⟩ : Addr).add 3) fun (u22 : Int) =>
  splitW (u20 == u22) (K (.int .i64 (2 : Int))) <|
  ldW .slc ((⟨r1, 0, none⟩ : Addr).add 4) fun (u23 : (Option Addr × Nat × Nat)) =>
  guardW (0 ≤ y18.1 ∧ y18.1 ≤ ((u23.2.2 : Nat) : Int)) <|
  callW Tryz.prog 79 [(.slice (cutAddr u23.1 0 u23.2.2 1) (Int.toNat y18.1) u23.2.2), (.int .u32 u20)] (.one (.one .bool)) fun (u24 : Bool) =>
  splitW u24 (K (.int .i64 (2 : Int))) <| I17 ((IntKind.wrap .i64 (y18.1 + (1 : Int))), ())) <|
  drewW <|
  ldW .slc ((⟨r1, 0, none⟩ : Addr).add 4) fun (u25 : (Option Addr × Nat × Nat)) =>
  ldW (.int .i64) ((⟨r1, 0, none⟩ : Addr).add 1) fun (u26 : Int) =>
  callW Tryz.prog 64 [(.int .i64 u26)] (.one (.one (.int .i64))) fun (u27 : Int) =>
  heldW [[(((⟨r1, 0, none⟩ : Addr).add 4), (.slice u25.1 u25.2.1 u25.2.2))]] <|
  splitW (decide ((IntKind.wrap .i64 ((14 : Int) + (IntKind.wrap .i64 ((4 : Int) * ((u25.2.1 : Nat) : Int))))) > u27)) (K (.int .i64 (3 : Int))) <| K (.int .i64 (0 : Int))
theorem eq41 (x0_0 : Int) (x0_1 : Int) (x0_2 : Int) (x0_3 : Int) (a0_4 : Option Addr) (n0_4 c0_4 : Nat) (K : Value → WP) : bodyW Tryz.prog Tryz.f41 an41 false [(.agg #[(.int .u64 x0_0), (.int .i64 x0_1), (.int .i64 x0_2), (.int .u32 x0_3), (.slice a0_4 n0_4 c0_4)])] K = S41 x0_0 x0_1 x0_2 x0_3 a0_4 n0_4 c0_4 K := by kernel_rfl
theorem calls41 (x0_0 : Int) (x0_1 : Int) (x0_2 : Int) (x0_3 : Int) (a0_4 : Option Addr) (n0_4 c0_4 : Nat) {K : Value → WP} {w : World} (h : S41 x0_0 x0_1 x0_2 x0_3 a0_4 n0_4 c0_4 K w) : Calls Tryz.prog 41 #[(.agg #[(.int .u64 x0_0), (.int .i64 x0_1), (.int .i64 x0_2), (.int .u32 x0_3), (.slice a0_4 n0_4 c0_4)])] w (Ret K) := callsR_of_bodyW mixed Tryz.func41 (of_decide_eq_true (by kernel_rfl)) (by rw [eq41]; exact h)

/-- (*shadowbook/device.Device).Write -/
def an42 : Ann := (.seq .nil (.seq (.block (.seq .nil (.cond (.seq .nil .nil) (.seq .nil (.cond (.seq .nil .nil) (.seq .nil (.cond (.seq .nil .nil) .nil))))))) (.seq .nil (.seq .nil .nil))))
def S42 (x0 : Option Addr) (x1 : Int) (x2 : ByteArray) (K : Value → WP) : WP := 
  splitW (Option.isNone x0) (K (.int .i64 (1 : Int))) <|
  callW Tryz.prog 80 [(.pointer x0), (.int .i64 x1)] (.one (.one .bool)) fun (u1 : Bool) =>
  splitW (!u1) (K (.int .i64 (2 : Int))) <|
  ptrW x0 fun (p2 : Addr) =>
  ldW (.int .i64) p2 fun (u3 : Int) =>
  splitW (((x2.size : Nat) : Int) != u3) (K (.int .i64 (2 : Int))) <|
  callW Tryz.prog 81 [(.pointer x0)] (.one (.one .bool)) fun (u4 : Bool) =>
  splitW (!u4) (K (.int .i64 (8 : Int))) <|
  ptrW x0 fun (p5 : Addr) =>
  ldW .slc (p5.add 3) fun (u6 : (Option Addr × Nat × Nat)) =>
  newW (.cells #[(.int .i64 x1), (.string x2)] 120) fun (r7 : Nat) =>
  runW Tryz.prog (Builtin.append_ #[65, 65] 65 #[(.slice u6.1 u6.2.1 u6.2.2), (.slice (some (⟨r7, 0, none⟩ : Addr)) 1 1)]) .slc fun (u8 : (Option Addr × Nat × Nat)) =>
  ptrW x0 fun (p9 : Addr) =>
  stW (p9.add 3) (.slice u8.1 u8.2.1 u8.2.2) <| K (.int .i64 (0 : Int))
theorem eq42 (x0 : Option Addr) (x1 : Int) (x2 : ByteArray) (K : Value → WP) : bodyW Tryz.prog Tryz.f42 an42 false [(.pointer x0), (.int .i64 x1), (.string x2)] K = S42 x0 x1 x2 K := by kernel_rfl
theorem calls42 (x0 : Option Addr) (x1 : Int) (x2 : ByteArray) {K : Value → WP} {w : World} (h : S42 x0 x1 x2 K w) : Calls Tryz.prog 42 #[(.pointer x0), (.int .i64 x1), (.string x2)] w (Ret K) := callsR_of_bodyW mixed Tryz.func42 (of_decide_eq_true (by kernel_rfl)) (by rw [eq42]; exact h)

/-- shadowbook/space.commit -/
def an43 : Ann := (.seq .nil (.seq (.seq .nil (.block (.loop [(19, .sh (.one (.int .i64)))] [0, 3, 6, 17, 18, 1000000] (.seq .nil (.seq (.cond .nil .nil) (.seq (.block (.seq .nil (.seq .nil (.seq .nil (.cond (.seq .nil .nil) .nil))))) .nil)))))) (.seq (.seq .nil (.seq .nil (.cond (.seq .nil .nil) .nil))) (.seq .nil (.seq (.seq .nil (.cond (.seq .nil .nil) .nil)) (.seq (.seq .nil (.seq .nil (.cond (.seq .nil .nil) .nil))) (.seq .nil .nil)))))))
def S43 (x0 : Option Addr) (x1 : Option Addr) (x2_0 : Int) (x2_1 : Int) (x2_2 : Int) (x2_3 : Int) (a2_4 : Option Addr) (n2_4 c2_4 : Nat) (x3 : Int) (K : Value → WP) : WP := 
  newW (.cells #[(.int .u64 x2_0), (.int .i64 x2_1), (.int .i64 x2_2), (.int .u32 x2_3), (.slice a2_4 n2_4 c2_4)] 78) fun (r1 : Nat) =>
  callW Tryz.prog 82 [(.pointer x1)] (.one (.one .slc)) fun (u2 : (Option Addr × Nat × Nat)) =>
  loopW (Int × Unit) ((0 : Int), ()) fun (y4 : Int × Unit) (I3 : (Int × Unit) → WP) =>
  splitW (decide (y4.1 < ((u2.2.1 : Nat) : Int))) (guardW (0 ≤ y4.1 ∧ y4.1 < ((u2.2.1 : Nat) : Int)) <|
  ptrW u2.1 fun (p5 : Addr) =>
  ldW .str (p5.add (Int.toNat y4.1 * 1)) fun (u6 : ByteArray) =>
  drewW <|
  ldW .slc ((⟨r1, 0, none⟩ : Addr).add 4) fun (u7 : (Option Addr × Nat × Nat)) =>
  guardW (0 ≤ y4.1 ∧ y4.1 < ((u7.2.1 : Nat) : Int)) <|
  ptrW u7.1 fun (p8 : Addr) =>
  ldW (.int .u32) (p8.add (Int.toNat y4.1 * 1)) fun (u9 : Int) =>
  ldW (.int .u64) (⟨r1, 0, none⟩ : Addr) fun (u10 : Int) =>
  callW Tryz.prog 59 [(.pointer x0), (.int .u32 u9), (.agg #[(.int .u8 (2 : Int)), (.int .u64 u10), (.string u6)])] (.one (.one (.int .i64))) fun (u11 : Int) =>
  splitW (u11 != (0 : Int)) (K (.int .i64 u11)) <| I3 ((IntKind.wrap .i64 (y4.1 + (1 : Int))), ())) <|
  callW Tryz.prog 83 [(.pointer x0)] (.one (.one (.int .i64))) fun (u12 : Int) =>
  splitW (u12 != (0 : Int)) (K (.int .i64 u12)) <|
  ldAW [(.int .u64), (.int .i64), (.int .i64), (.int .u32), .slc] (⟨r1, 0, none⟩ : Addr) fun (u13 : (Int × Int × Int × Int × (Option Addr × Nat × Nat) × Unit)) =>
  callW Tryz.prog 84 [(.agg #[(.int .u64 u13.1), (.int .i64 u13.2.1), (.int .i64 u13.2.2.1), (.int .u32 u13.2.2.2.1), (.slice u13.2.2.2.2.1.1 u13.2.2.2.2.1.2.1 u13.2.2.2.2.1.2.2)])] (.many [(.one .str), (.one (.int .i64))]) fun (u14 : ByteArray × Int × Unit) =>
  splitW (u14.2.1 != (0 : Int)) (K (.int .i64 u14.2.1)) <|
  callW Tryz.prog 42 [(.pointer x0), (.int .i64 x3), (.string u14.1)] (.one (.one (.int .i64))) fun (u15 : Int) =>
  splitW (u15 != (0 : Int)) (K (.int .i64 u15)) <|
  callW Tryz.prog 83 [(.pointer x0)] (.one (.one (.int .i64))) fun (u16 : Int) => K (.int .i64 u16)
theorem eq43 (x0 : Option Addr) (x1 : Option Addr) (x2_0 : Int) (x2_1 : Int) (x2_2 : Int) (x2_3 : Int) (a2_4 : Option Addr) (n2_4 c2_4 : Nat) (x3 : Int) (K : Value → WP) : bodyW Tryz.prog Tryz.f43 an43 false [(.pointer x0), (.pointer x1), (.agg #[(.int .u64 x2_0), (.int .i64 x2_1), (.int .i64 x2_2), (.int .u32 x2_3), (.slice a2_4 n2_4 c2_4)]), (.int .i64 x3)] K = S43 x0 x1 x2_0 x2_1 x2_2 x2_3 a2_4 n2_4 c2_4 x3 K := by kernel_rfl
theorem calls43 (x0 : Option Addr) (x1 : Option Addr) (x2_0 : Int) (x2_1 : Int) (x2_2 : Int) (x2_3 : Int) (a2_4 : Option Addr) (n2_4 c2_4 : Nat) (x3 : Int) {K : Value → WP} {w : World} (h : S43 x0 x1 x2_0 x2_1 x2_2 x2_3 a2_4 n2_4 c2_4 x3 K w) : Calls Tryz.prog 43 #[(.pointer x0), (.pointer x1), (.agg #[(.int .u64 x2_0), (.int .i64 x2_1), (.int .i64 x2_2), (.int .u32 x2_3), (.slice a2_4 n2_4 c2_4)]), (.int .i64 x3)] w (Ret K) := callsR_of_bodyW mixed Tryz.func43 (of_decide_eq_true (by kernel_rfl)) (by rw [eq43]; exact h)

/-- (*shadowbook/counts.Counts).Clone -/
def an44 : Ann := (.seq .nil (.seq (.seq .nil (.cond (.seq .nil .nil) .nil)) (.seq .nil .nil)))
def S44 (x0 : Option Addr) (K : Value → WP) : WP := 
  splitW (Option.isNone x0) (K (.pointer none)) <|
  drewW <|
  ptrW x0 fun (p1 : Addr) =>
  ldAW [(.int .i64), (.int .i64)] p1 fun (u2 : (Int × Int × Unit)) =>
  ptrW x0 fun (p3 : Addr) =>
  ldW .slc (p3.add 2) fun (u4 : (Option Addr × Nat × Nat)) =>
  callW Tryz.prog 85 [(.slice u4.1 u4.2.1 u4.2.2)] (.one (.one .slc)) fun (u5 : (Option Addr × Nat × Nat)) =>
  heldW [[(p1.add 0, (.int .i64 u2.1)), (p1.add 1, (.int .i64 u2.2.1))]] <|
  newW (.cells #[(.int .i64 u2.1), (.int .i64 u2.2.1), (.slice u5.1 u5.2.1 u5.2.2)] 128) fun (r6 : Nat) => K (.pointer (some (⟨r6, 0, none⟩ : Addr)))
theorem eq44 (x0 : Option Addr) (K : Value → WP) : bodyW Tryz.prog Tryz.f44 an44 false [(.pointer x0)] K = S44 x0 K := by kernel_rfl
theorem calls44 (x0 : Option Addr) {K : Value → WP} {w : World} (h : S44 x0 K w) : Calls Tryz.prog 44 #[(.pointer x0)] w (Ret K) := callsR_of_bodyW mixed Tryz.func44 (of_decide_eq_true (by kernel_rfl)) (by rw [eq44]; exact h)

/-- shadowbook/device.Check -/
def an45 : Ann := (.seq .nil (.seq (.seq .nil (.cond (.seq .nil .nil) .nil)) (.seq .nil .nil)))
def S45 (x0_0 : Int) (x0_1 : Int) (K : Value → WP) : WP := 
  newW (.cells #[(.int .i64 x0_0), (.int .i64 x0_1)] 28) fun (r1 : Nat) =>
  ldW (.int .i64) (⟨r1, 0, none⟩ : Addr) fun (u2 : Int) =>
  splitW (decide (u2 < (128 : Int))) (K (.int .i64 (2 : Int))) <|
  ldW (.int .i64) (⟨r1, 0, none⟩ : Addr) fun (u3 : Int) =>
  splitW (decide (u3 > (4096 : Int))) (K (.int .i64 (2 : Int))) <|
  ldW (.int .i64) (⟨r1, 0, none⟩ : Addr) fun (u4 : Int) =>
  splitW ((Int.tmod u4 (64 : Int)) != (0 : Int)) (K (.int .i64 (2 : Int))) <|
  ldW (.int .i64) ((⟨r1, 0, none⟩ : Addr).add 1) fun (u5 : Int) =>
  splitW (decide (u5 < (8 : Int))) (K (.int .i64 (2 : Int))) <|
  ldW (.int .i64) ((⟨r1, 0, none⟩ : Addr).add 1) fun (u6 : Int) =>
  splitW (decide (u6 > (4096 : Int))) (K (.int .i64 (2 : Int))) <| K (.int .i64 (0 : Int))
theorem eq45 (x0_0 : Int) (x0_1 : Int) (K : Value → WP) : bodyW Tryz.prog Tryz.f45 an45 false [(.agg #[(.int .i64 x0_0), (.int .i64 x0_1)])] K = S45 x0_0 x0_1 K := by kernel_rfl
theorem calls45 (x0_0 : Int) (x0_1 : Int) {K : Value → WP} {w : World} (h : S45 x0_0 x0_1 K w) : Calls Tryz.prog 45 #[(.agg #[(.int .i64 x0_0), (.int .i64 x0_1)])] w (Ret K) := callsR_of_bodyW mixed Tryz.func45 (of_decide_eq_true (by kernel_rfl)) (by rw [eq45]; exact h)

/-- slices.Repeat[[]string,string] -/
def an46 : Ann := (.seq .nil (.join [] [0, 1, 1000000] (.seq .nil (.cond .nil .nil)) (.seq .nil (.join [] [0, 6, 1000000] (.seq .nil (.cond .nil .nil)) (.seq .nil (.seq .nil (.seq (.block (.loop [(8, .sh (.one (.int .i64)))] [7, 1000000] (.seq (.seq .nil (.cond .nil .nil)) (.block .nil)))) (.seq .nil .nil))))))))
def S46 (a0 : Option Addr) (n0 c0 : Nat) (x1 : Int) (K : Value → WP) : WP := 
  joinW (Unit) (fun (J1 : (Unit) → WP) =>
  splitW (decide (x1 < (0 : Int))) (FalseW) <| J1 ()) fun (y2 : Unit) =>
  callW Tryz.prog 86 [(.int .u64 (IntKind.wrap .u64 ((n0 : Nat) : Int))), (.int .u64 (IntKind.wrap .u64 x1))] (.many [(.one (.int .u64)), (.one (.int .u64))]) fun (u3 : Int × Int × Unit) =>
  joinW (Unit) (fun (J4 : (Unit) → WP) =>
  splitW (decide (u3.1 > (0 : Int))) (FalseW) <|
  splitW (decide (u3.2.1 > (9223372036854775807 : Int))) (FalseW) <| J4 ()) fun (y5 : Unit) =>
  runW Tryz.prog (Instr.makeSlice 88 (.int .i64 (IntKind.wrap .i64 u3.2.1)) (.int .i64 (IntKind.wrap .i64 u3.2.1))) .slc fun (u6 : Option Addr × Nat × Nat) =>
  runW Tryz.prog (Builtin.copy_ #[88, 88] 3 #[(.slice u6.1 u6.2.1 u6.2.2), (.slice a0 n0 c0)]) (.int .i64) fun (u7 : Int) =>
  loopW (Int × Unit) (u7, ()) fun (y9 : Int × Unit) (I8 : (Int × Unit) → WP) =>
  splitW (decide (y9.1 < ((u6.2.1 : Nat) : Int))) (drewW <|
  guardW (0 ≤ y9.1 ∧ y9.1 ≤ ((u6.2.1 : Nat) : Int)) <|
  guardW (0 ≤ y9.1 ∧ y9.1 ≤ ((u6.2.2 : Nat) : Int)) <|
  runW Tryz.prog (Builtin.copy_ #[88, 88] 3 #[(.slice (cutAddr u6.1 (Int.toNat y9.1) u6.2.2 1) (u6.2.1 - (Int.toNat y9.1)) (u6.2.2 - (Int.toNat y9.1))), (.slice (cutAddr u6.1 0 u6.2.2 1) (Int.toNat y9.1) u6.2.2)]) (.int .i64) fun (u10 : Int) => I8 ((IntKind.wrap .i64 (y9.1 + u10)), ())) <| K (.slice u6.1 u6.2.1 u6.2.2)
theorem eq46 (a0 : Option Addr) (n0 c0 : Nat) (x1 : Int) (K : Value → WP) : bodyW Tryz.prog Tryz.f46 an46 false [(.slice a0 n0 c0), (.int .i64 x1)] K = S46 a0 n0 c0 x1 K := by kernel_rfl
theorem calls46 (a0 : Option Addr) (n0 c0 : Nat) (x1 : Int) {K : Value → WP} {w : World} (h : S46 a0 n0 c0 x1 K w) : Calls Tryz.prog 46 #[(.slice a0 n0 c0), (.int .i64 x1)] w (Ret K) := callsR_of_bodyW mixed Tryz.func46 (of_decide_eq_true (by kernel_rfl)) (by rw [eq46]; exact h)

/-- (*shadowbook/device.Device).Read -/
def an48 : Ann := (.seq .nil (.seq (.block (.seq .nil (.cond (.seq .nil .nil) (.seq .nil (.cond (.seq .nil .nil) .nil))))) (.seq (.seq .nil (.block (.loop [(18, .sh (.one (.int .i64))), (19, .sh (.agg [(.int .i64), .str]))] [] (.seq .nil (.block (.seq .nil (.cond (.seq .nil .nil) .nil))))))) (.seq .nil .nil))))
def S48 (x0 : Option Addr) (x1 : Int) (K : Value → WP) : WP := 
  newW (.cells #[(.int .i64 x1)] 3) fun (r1 : Nat) =>
  newW (.cells #[(.string ByteArray.empty)] 9) fun (r2 : Nat) =>
  newW (.cells #[(.int .i64 (0 : Int))] 30) fun (r3 : Nat) =>
  splitW (Option.isNone x0) (stW (⟨r2, 0, none⟩ : Addr) (.string (ByteArray.mk #[])) <|
  stW (⟨r3, 0, none⟩ : Addr) (.int .i64 (1 : Int)) <|
  leaveW Tryz.prog [] <|
  ldW .str (⟨r2, 0, none⟩ : Addr) fun (u4 : ByteArray) =>
  ldW (.int .i64) (⟨r3, 0, none⟩ : Addr) fun (u5 : Int) => K (.tuple #[(.string u4), (.int .i64 u5)])) <|
  ldW (.int .i64) (⟨r1, 0, none⟩ : Addr) fun (u6 : Int) =>
  callW Tryz.prog 80 [(.pointer x0), (.int .i64 u6)] (.one (.one .bool)) fun (u7 : Bool) =>
  splitW (!u7) (stW (⟨r2, 0, none⟩ : Addr) (.string (ByteArray.mk #[])) <|
  stW (⟨r3, 0, none⟩ : Addr) (.int .i64 (2 : Int)) <|
  leaveW Tryz.prog [] <|
  ldW .str (⟨r2, 0, none⟩ : Addr) fun (u8 : ByteArray) =>
  ldW (.int .i64) (⟨r3, 0, none⟩ : Addr) fun (u9 : Int) => K (.tuple #[(.string u8), (.int .i64 u9)])) <|
  callW Tryz.prog 92 [(.pointer x0)] (.one (.one .any)) fun (u10 : Value) =>
  rangeW Tryz.prog u10 (Int × (Int × ByteArray × Unit) × Unit) (fun (t11 : Int × (Int × ByteArray × Unit) × Unit) => [(.int .i64 t11.1), (.agg #[(.int .i64 t11.2.1.1), (.string t11.2.1.2.1)])]) (fun (t11 : Int × (Int × ByteArray × Unit) × Unit) (B12 : WP → WP) (N13 : WP) (Q14 : Code → WP) =>
  newW (.cells #[(.int .i64 (0 : Int)), (.string ByteArray.empty)] 120) fun (r17 : Nat) =>
  guardW ((#[(.int .i64 t11.2.1.1), (.string t11.2.1.2.1)] : Array Value).size = 2) <|
  stAW (⟨r17, 0, none⟩ : Addr) [(.int .i64 t11.2.1.1), (.string t11.2.1.2.1)] <| B12 (ldW (.int .i64) (⟨r17, 0, none⟩ : Addr) fun (u18 : Int) =>
  ldW (.int .i64) (⟨r1, 0, none⟩ : Addr) fun (u19 : Int) =>
  splitW (u18 == u19) (ldW .str ((⟨r17, 0, none⟩ : Addr).add 1) fun (u20 : ByteArray) =>
  stW (⟨r2, 0, none⟩ : Addr) (.string u20) <|
  stW (⟨r3, 0, none⟩ : Addr) (.int .i64 (0 : Int)) <| Q14 .ret) <| N13)) fun (r15 : Nat) (p16 : Option Code) =>
  jumpK (drewW <|
  ptrW x0 fun (p21 : Addr) =>
  ldW .slc (p21.add 2) fun (u22 : (Option Addr × Nat × Nat)) =>
  ldW (.int .i64) (⟨r1, 0, none⟩ : Addr) fun (u23 : Int) =>
  guardW (0 ≤ u23 ∧ u23 < ((u22.2.1 : Nat) : Int)) <|
  ptrW u22.1 fun (p24 : Addr) =>
  ldW .str (p24.add (Int.toNat u23 * 1)) fun (u25 : ByteArray) =>
  stW (⟨r2, 0, none⟩ : Addr) (.string u25) <|
  stW (⟨r3, 0, none⟩ : Addr) (.int .i64 (0 : Int)) <|
  leaveW Tryz.prog (⟨.collected r15, #[]⟩ :: []) <|
  ldW .str (⟨r2, 0, none⟩ : Addr) fun (u26 : ByteArray) =>
  ldW (.int .i64) (⟨r3, 0, none⟩ : Addr) fun (u27 : Int) => K (.tuple #[(.string u26), (.int .i64 u27)])) (leaveW Tryz.prog (⟨.collected r15, #[]⟩ :: []) <|
  ldW .str (⟨r2, 0, none⟩ : Addr) fun (u28 : ByteArray) =>
  ldW (.int .i64) (⟨r3, 0, none⟩ : Addr) fun (u29 : Int) => K (.tuple #[(.string u28), (.int .i64 u29)])) [] p16
theorem eq48 (x0 : Option Addr) (x1 : Int) (K : Value → WP) : bodyW Tryz.prog Tryz.f48 an48 true [(.pointer x0), (.int .i64 x1)] K = S48 x0 x1 K := by kernel_rfl
theorem calls48 (x0 : Option Addr) (x1 : Int) {K : Value → WP} {w : World} (h : S48 x0 x1 K w) : Calls Tryz.prog 48 #[(.pointer x0), (.int .i64 x1)] w (Ret K) := callsR_of_bodyW mixed Tryz.func48 (of_decide_eq_true (by kernel_rfl)) (by rw [eq48]; exact h)

/-- shadowbook/super.Choose -/
def an49 : Ann := (.seq .nil (.seq .nil (.seq (.seq .nil (.block (.loop [(4, .sh (.one (.int .i64))), (14, .sh (.one (.int .i64)))] [5, 13, 1000000] (.seq .nil (.seq (.cond .nil .nil) (.seq (.block (.seq .nil (.seq .nil (.seq .nil (.cond .nil .nil))))) .nil)))))) (.seq (.seq .nil (.cond (.seq .nil .nil) .nil)) (.seq .nil .nil)))))
def S49 (x0 : ByteArray) (x1 : ByteArray) (K : Value → WP) : WP := 
  newW (.cells #[(.int .u64 (0 : Int)), (.int .i64 (0 : Int)), (.int .i64 (0 : Int)), (.int .u32 (0 : Int)), (.slice none 0 0)] 78) fun (r1 : Nat) =>
  loopW (Int × Int × Unit) ((-1 : Int), (0 : Int), ()) fun (y3 : Int × Int × Unit) (I2 : (Int × Int × Unit) → WP) =>
  splitW (decide (y3.2.1 < (2 : Int))) (guardW (0 ≤ y3.2.1 ∧ y3.2.1 < ((2 : Nat) : Int) ∧ 2 = (#[(.string x0), (.string x1)] : Array Value).size) <|
  callW Tryz.prog 93 [((#[(.string x0), (.string x1)] : Array Value).getD (Int.toNat y3.2.1) undef)] (.many [(.agg [(.int .u64), (.int .i64), (.int .i64), (.int .u32), .slc]), (.one (.int .i64))]) fun (u4 : (Int × Int × Int × Int × (Option Addr × Nat × Nat) × Unit) × Int × Unit) =>
  newW (.cells #[(.int .u64 (0 : Int)), (.int .i64 (0 : Int)), (.int .i64 (0 : Int)), (.int .u32 (0 : Int)), (.slice none 0 0)] 78) fun (r5 : Nat) =>
  guardW ((#[(.int .u64 u4.1.1), (.int .i64 u4.1.2.1), (.int .i64 u4.1.2.2.1), (.int .u32 u4.1.2.2.2.1), (.slice u4.1.2.2.2.2.1.1 u4.1.2.2.2.2.1.2.1 u4.1.2.2.2.2.1.2.2)] : Array Value).size = 5) <|
  stAW (⟨r5, 0, none⟩ : Addr) [(.int .u64 u4.1.1), (.int .i64 u4.1.2.1), (.int .i64 u4.1.2.2.1), (.int .u32 u4.1.2.2.2.1), (.slice u4.1.2.2.2.2.1.1 u4.1.2.2.2.2.1.2.1 u4.1.2.2.2.2.1.2.2)] <|
  splitW (u4.2.1 == (0 : Int)) (splitW (decide (y3.1 < (0 : Int))) (drewW <|
  ldAW [(.int .u64), (.int .i64), (.int .i64), (.int .u32), .slc] (⟨r5, 0, none⟩ : Addr) fun (u6 : (Int × Int × Int × Int × (Option Addr × Nat × Nat) × Unit)) =>
  guardW ((#[(.int .u64 u6.1), (.int .i64 u6.2.1), (.int .i64 u6.2.2.1), (.int .u32 u6.2.2.2.1), (.slice u6.2.2.2.2.1.1 u6.2.2.2.2.1.2.1 u6.2.2.2.2.1.2.2)] : Array Value).size = 5) <|
  stAW (⟨r1, 0, none⟩ : Addr) [(.int .u64 u6.1), (.int .i64 u6.2.1), (.int .i64 u6.2.2.1), (.int .u32 u6.2.2.2.1), (.slice u6.2.2.2.2.1.1 u6.2.2.2.2.1.2.1 u6.2.2.2.2.1.2.2)] <| I2 (y3.2.1, (IntKind.wrap .i64 (y3.2.1 + (1 : Int))), ())) <|
  ldW (.int .u64) (⟨r5, 0, none⟩ : Addr) fun (u7 : Int) =>
  ldW (.int .u64) (⟨r1, 0, none⟩ : Addr) fun (u8 : Int) =>
  splitW (decide (u7 > u8)) (drewW <|
  ldAW [(.int .u64), (.int .i64), (.int .i64), (.int .u32), .slc] (⟨r5, 0, none⟩ : Addr) fun (u9 : (Int × Int × Int × Int × (Option Addr × Nat × Nat) × Unit)) =>
  guardW ((#[(.int .u64 u9.1), (.int .i64 u9.2.1), (.int .i64 u9.2.2.1), (.int .u32 u9.2.2.2.1), (.slice u9.2.2.2.2.1.1 u9.2.2.2.2.1.2.1 u9.2.2.2.2.1.2.2)] : Array Value).size = 5) <|
  stAW (⟨r1, 0, none⟩ : Addr) [(.int .u64 u9.1), (.int .i64 u9.2.1), (.int .i64 u9.2.2.1), (.int .u32 u9.2.2.2.1), (.slice u9.2.2.2.2.1.1 u9.2.2.2.2.1.2.1 u9.2.2.2.2.1.2.2)] <| I2 (y3.2.1, (IntKind.wrap .i64 (y3.2.1 + (1 : Int))), ())) <| I2 (y3.1, (IntKind.wrap .i64 (y3.2.1 + (1 : Int))), ())) <| I2 (y3.1, (IntKind.wrap .i64 (y3.2.1 + (1 : Int))), ())) <|
  splitW (decide (y3.1 < (0 : Int))) (guardW ((#[(.int .u64 (0 : Int)), (.int .i64 (0 : Int)), (.int .i64 (0 : Int)), (.int .u32 (0 : Int)), (.slice none 0 0)] : Array Value).size = 5) <|
  stAW (⟨r1, 0, none⟩ : Addr) [(.int .u64 (0 : Int)), (.int .i64 (0 : Int)), (.int .i64 (0 : Int)), (.int .u32 (0 : Int)), (.slice none 0 0)] <|
  ldAW [(.int .u64), (.int .i64), (.int .i64), (.int .u32), .slc] (⟨r1, 0, none⟩ : Addr) fun (u10 : (Int × Int × Int × Int × (Option Addr × Nat × Nat) × Unit)) => K (.tuple #[(.int .i64 (-1 : Int)), (.agg #[(.int .u64 u10.1), (.int .i64 u10.2.1), (.int .i64 u10.2.2.1), (.int .u32 u10.2.2.2.1), (.slice u10.2.2.2.2.1.1 u10.2.2.2.2.1.2.1 u10.2.2.2.2.1.2.2)]), (.int .i64 (10 : Int))])) <|
  drewW <|
  ldAW [(.int .u64), (.int .i64), (.int .i64), (.int .u32), .slc] (⟨r1, 0, none⟩ : Addr) fun (u11 : (Int × Int × Int × Int × (Option Addr × Nat × Nat) × Unit)) =>
  guardW ((#[(.int .u64 u11.1), (.int .i64 u11.2.1), (.int .i64 u11.2.2.1), (.int .u32 u11.2.2.2.1), (.slice u11.2.2.2.2.1.1 u11.2.2.2.2.1.2.1 u11.2.2.2.2.1.2.2)] : Array Value).size = 5) <|
  stAW (⟨r1, 0, none⟩ : Addr) [(.int .u64 u11.1), (.int .i64 u11.2.1), (.int .i64 u11.2.2.1), (.int .u32 u11.2.2.2.1), (.slice u11.2.2.2.2.1.1 u11.2.2.2.2.1.2.1 u11.2.2.2.2.1.2.2)] <|
  ldAW [(.int .u64), (.int .i64), (.int .i64), (.int .u32), .slc] (⟨r1, 0, none⟩ : Addr) fun (u12 : (Int × Int × Int × Int × (Option Addr × Nat × Nat) × Unit)) => K (.tuple #[(.int .i64 y3.1), (.agg #[(.int .u64 u12.1), (.int .i64 u12.2.1), (.int .i64 u12.2.2.1), (.int .u32 u12.2.2.2.1), (.slice u12.2.2.2.2.1.1 u12.2.2.2.2.1.2.1 u12.2.2.2.2.1.2.2)]), (.int .i64 (0 : Int))])
theorem eq49 (x0 : ByteArray) (x1 : ByteArray) (K : Value → WP) : bodyW Tryz.prog Tryz.f49 an49 false [(.string x0), (.string x1)] K = S49 x0 x1 K := by kernel_rfl
theorem calls49 (x0 : ByteArray) (x1 : ByteArray) {K : Value → WP} {w : World} (h : S49 x0 x1 K w) : Calls Tryz.prog 49 #[(.string x0), (.string x1)] w (Ret K) := callsR_of_bodyW mixed Tryz.func49 (of_decide_eq_true (by kernel_rfl)) (by rw [eq49]; exact h)

/-- shadowbook/frame.Kind -/
def an50 : Ann := (.seq .nil (.seq .nil (.seq (.seq .nil (.cond (.seq .nil .nil) .nil)) (.seq .nil .nil))))
def S50 (x0 : ByteArray) (x1 : Int) (K : Value → WP) : WP := 
  newW (.cells #[(.int .u8 (0 : Int)), (.int .u64 (0 : Int)), (.string ByteArray.empty)] 97) fun (r1 : Nat) =>
  callW Tryz.prog 94 [(.string x0)] (.many [(.agg [(.int .u8), (.int .u64), .str]), (.one (.int .i64))]) fun (u2 : (Int × Int × ByteArray × Unit) × Int × Unit) =>
  newW (.cells #[(.int .u8 (0 : Int)), (.int .u64 (0 : Int)), (.string ByteArray.empty)] 97) fun (r3 : Nat) =>
  guardW ((#[(.int .u8 u2.1.1), (.int .u64 u2.1.2.1), (.string u2.1.2.2.1)] : Array Value).size = 3) <|
  stAW (⟨r3, 0, none⟩ : Addr) [(.int .u8 u2.1.1), (.int .u64 u2.1.2.1), (.string u2.1.2.2.1)] <|
  splitW (u2.2.1 == (0 : Int)) (ldW (.int .u8) (⟨r3, 0, none⟩ : Addr) fun (u4 : Int) =>
  splitW (u4 != x1) (guardW ((#[(.int .u8 (0 : Int)), (.int .u64 (0 : Int)), (.string ByteArray.empty)] : Array Value).size = 3) <|
  stAW (⟨r1, 0, none⟩ : Addr) [(.int .u8 (0 : Int)), (.int .u64 (0 : Int)), (.string ByteArray.empty)] <|
  ldAW [(.int .u8), (.int .u64), .str] (⟨r1, 0, none⟩ : Addr) fun (u5 : (Int × Int × ByteArray × Unit)) => K (.tuple #[(.agg #[(.int .u8 u5.1), (.int .u64 u5.2.1), (.string u5.2.2.1)]), (.int .i64 (11 : Int))])) <|
  ldAW [(.int .u8), (.int .u64), .str] (⟨r3, 0, none⟩ : Addr) fun (u6 : (Int × Int × ByteArray × Unit)) =>
  guardW ((#[(.int .u8 u6.1), (.int .u64 u6.2.1), (.string u6.2.2.1)] : Array Value).size = 3) <|
  stAW (⟨r1, 0, none⟩ : Addr) [(.int .u8 u6.1), (.int .u64 u6.2.1), (.string u6.2.2.1)] <|
  ldAW [(.int .u8), (.int .u64), .str] (⟨r1, 0, none⟩ : Addr) fun (u7 : (Int × Int × ByteArray × Unit)) => K (.tuple #[(.agg #[(.int .u8 u7.1), (.int .u64 u7.2.1), (.string u7.2.2.1)]), (.int .i64 u2.2.1)])) <|
  ldAW [(.int .u8), (.int .u64), .str] (⟨r3, 0, none⟩ : Addr) fun (u8 : (Int × Int × ByteArray × Unit)) =>
  guardW ((#[(.int .u8 u8.1), (.int .u64 u8.2.1), (.string u8.2.2.1)] : Array Value).size = 3) <|
  stAW (⟨r1, 0, none⟩ : Addr) [(.int .u8 u8.1), (.int .u64 u8.2.1), (.string u8.2.2.1)] <|
  ldAW [(.int .u8), (.int .u64), .str] (⟨r1, 0, none⟩ : Addr) fun (u9 : (Int × Int × ByteArray × Unit)) => K (.tuple #[(.agg #[(.int .u8 u9.1), (.int .u64 u9.2.1), (.string u9.2.2.1)]), (.int .i64 u2.2.1)])
theorem eq50 (x0 : ByteArray) (x1 : Int) (K : Value → WP) : bodyW Tryz.prog Tryz.f50 an50 false [(.string x0), (.int .u8 x1)] K = S50 x0 x1 K := by kernel_rfl
theorem calls50 (x0 : ByteArray) (x1 : Int) {K : Value → WP} {w : World} (h : S50 x0 x1 K w) : Calls Tryz.prog 50 #[(.string x0), (.int .u8 x1)] w (Ret K) := callsR_of_bodyW mixed Tryz.func50 (of_decide_eq_true (by kernel_rfl)) (by rw [eq50]; exact h)

/-- shadowbook/counts.Load -/
def an51 : Ann := (.seq .nil (.seq .nil (.seq (.seq .nil (.cond (.seq .nil .nil) .nil)) (.seq .nil (.seq (.seq .nil (.cond (.seq .nil .nil) .nil)) (.seq .nil (.seq (.seq .nil (.block (.loop [(36, .sh (.one (.int .i64))), (1000000, .ds)] [4, 5, 6, 9, 34, 35] (.seq .nil (.seq (.cond .nil .nil) (.seq (.block (.seq .nil (.seq .nil (.block (.loop [(43, .sh (.one .slc))] [] (.seq .nil (.block (.seq .nil .nil)))))))) .nil)))))) (.seq (.seq .nil (.cond (.seq .nil .nil) .nil)) (.seq .nil .nil)))))))))
def S51 (x0_0 : Int) (x0_1 : Int) (a1 : Option Addr) (n1 c1 : Nat) (K : Value → WP) : WP := 
  newW (.cells #[(.int .i64 x0_0), (.int .i64 x0_1)] 28) fun (r1 : Nat) =>
  ldAW [(.int .i64), (.int .i64)] (⟨r1, 0, none⟩ : Addr) fun (u2 : (Int × Int × Unit)) =>
  callW Tryz.prog 37 [(.agg #[(.int .i64 u2.1), (.int .i64 u2.2.1)])] (.many [(.one .ptr), (.one (.int .i64))]) fun (u3 : Option Addr × Int × Unit) =>
  newW (.cells #[(.pointer none)] 74) fun (r4 : Nat) =>
  stW (⟨r4, 0, none⟩ : Addr) (.pointer u3.1) <|
  splitW (u3.2.1 != (0 : Int)) (leaveW Tryz.prog [] <| K (.tuple #[(.pointer none), (.int .i64 u3.2.1)])) <|
  ldAW [(.int .i64), (.int .i64)] (⟨r1, 0, none⟩ : Addr) fun (u5 : (Int × Int × Unit)) =>
  callW Tryz.prog 39 [(.agg #[(.int .i64 u5.1), (.int .i64 u5.2.1)])] (.one (.one (.int .i64))) fun (u6 : Int) =>
  splitW (((n1 : Nat) : Int) != u6) (leaveW Tryz.prog [] <| K (.tuple #[(.pointer none), (.int .i64 (4 : Int))])) <|
  ldW .ptr (⟨r4, 0, none⟩ : Addr) fun (u7 : Option Addr) =>
  callW Tryz.prog 82 [(.pointer u7)] (.one (.one .slc)) fun (u8 : (Option Addr × Nat × Nat)) =>
  callW Tryz.prog 96 [(.slice a1 n1 c1), (.slice u8.1 u8.2.1 u8.2.2), (.func (.func 95) #[] #[])] (.one (.one .bool)) fun (u9 : Bool) =>
  splitW (!u9) (leaveW Tryz.prog [] <| K (.tuple #[(.pointer none), (.int .i64 (4 : Int))])) <|
  newW (.cells #[(.int .i64 (0 : Int))] 3) fun (r10 : Nat) =>
  stW (⟨r10, 0, none⟩ : Addr) (.int .i64 (0 : Int)) <|
  loopW (Int × List Deferred × Unit) ((0 : Int), [], ()) fun (y12 : Int × List Deferred × Unit) (I11 : (Int × List Deferred × Unit) → WP) =>
  splitW (decide (y12.1 < ((n1 : Nat) : Int))) (guardW (0 ≤ y12.1 ∧ y12.1 < ((n1 : Nat) : Int)) <|
  ptrW a1 fun (p13 : Addr) =>
  ldW .str (p13.add (Int.toNat y12.1 * 1)) fun (u14 : ByteArray) =>
  runW Tryz.prog (Go.convert 9 62 (.string u14)) .slc fun (u15 : (Option Addr × Nat × Nat)) =>
  callW Tryz.prog 97 [(.slice u15.1 u15.2.1 u15.2.2), (.int .i64 (2 : Int))] (.one (.one .any)) fun (u16 : Value) =>
  rangeW Tryz.prog u16 ((Option Addr × Nat × Nat) × Unit) (fun (t17 : (Option Addr × Nat × Nat) × Unit) => [(.slice t17.1.1 t17.1.2.1 t17.1.2.2)]) (fun (t17 : (Option Addr × Nat × Nat) × Unit) (B18 : WP → WP) (N19 : WP) (Q20 : Code → WP) => B18 (drewW <|
  ldW .ptr (⟨r4, 0, none⟩ : Addr) fun (u23 : Option Addr) =>
  ptrW u23 fun (p24 : Addr) =>
  ldW .slc (p24.add 2) fun (u25 : (Option Addr × Nat × Nat)) =>
  ldW (.int .i64) (⟨r10, 0, none⟩ : Addr) fun (u26 : Int) =>
  callW Tryz.prog 98 [(.slice t17.1.1 t17.1.2.1 t17.1.2.2)] (.one (.one (.int .u64))) fun (u27 : Int) =>
  heldW [[((⟨r10, 0, none⟩ : Addr), (.int .i64 u26))], [((p24.add 2), (.slice u25.1 u25.2.1 u25.2.2))], [((⟨r4, 0, none⟩ : Addr), (.pointer u23))]] <|
  guardW (0 ≤ u26 ∧ u26 < ((u25.2.1 : Nat) : Int)) <|
  ptrW u25.1 fun (p28 : Addr) =>
  stW (p28.add (Int.toNat u26 * 1)) (.int .u16 (IntKind.wrap .u16 u27)) <|
  ldW (.int .i64) (⟨r10, 0, none⟩ : Addr) fun (u29 : Int) =>
  stW (⟨r10, 0, none⟩ : Addr) (.int .i64 (IntKind.wrap .i64 (u29 + (1 : Int)))) <| N19)) fun (r21 : Nat) (p22 : Option Code) =>
  jumpK (I11 ((IntKind.wrap .i64 (y12.1 + (1 : Int))), (⟨.collected r21, #[]⟩ :: y12.2.1), ())) (leaveW Tryz.prog (⟨.collected r21, #[]⟩ :: y12.2.1) <| K (.tuple #[(.pointer none), (.int .i64 (0 : Int))])) [] p22) <|
  ldW .ptr (⟨r4, 0, none⟩ : Addr) fun (u30 : Option Addr) =>
  ptrW u30 fun (p31 : Addr) =>
  ldW .slc (p31.add 2) fun (u32 : (Option Addr × Nat × Nat)) =>
  guardW (0 ≤ (0 : Int) ∧ (0 : Int) < ((u32.2.1 : Nat) : Int)) <|
  ptrW u32.1 fun (p33 : Addr) =>
  ldW (.int .u16) (p33.add (Int.toNat (0 : Int) * 1)) fun (u34 : Int) =>
  splitW (u34 != (1 : Int)) (leaveW Tryz.prog y12.2.1 <| K (.tuple #[(.pointer none), (.int .i64 (4 : Int))])) <|
  ldW .ptr (⟨r4, 0, none⟩ : Addr) fun (u35 : Option Addr) =>
  ptrW u35 fun (p36 : Addr) =>
  ldW .slc (p36.add 2) fun (u37 : (Option Addr × Nat × Nat)) =>
  guardW (0 ≤ (1 : Int) ∧ (1 : Int) < ((u37.2.1 : Nat) : Int)) <|
  ptrW u37.1 fun (p38 : Addr) =>
  ldW (.int .u16) (p38.add (Int.toNat (1 : Int) * 1)) fun (u39 : Int) =>
  splitW (u39 != (1 : Int)) (leaveW Tryz.prog y12.2.1 <| K (.tuple #[(.pointer none), (.int .i64 (4 : Int))])) <|
  ldW .ptr (⟨r4, 0, none⟩ : Addr) fun (u40 : Option Addr) =>
  leaveW Tryz.prog y12.2.1 <| K (.tuple #[(.pointer u40), (.int .i64 (0 : Int))])
theorem eq51 (x0_0 : Int) (x0_1 : Int) (a1 : Option Addr) (n1 c1 : Nat) (K : Value → WP) : bodyW Tryz.prog Tryz.f51 an51 true [(.agg #[(.int .i64 x0_0), (.int .i64 x0_1)]), (.slice a1 n1 c1)] K = S51 x0_0 x0_1 a1 n1 c1 K := by kernel_rfl
theorem calls51 (x0_0 : Int) (x0_1 : Int) (a1 : Option Addr) (n1 c1 : Nat) {K : Value → WP} {w : World} (h : S51 x0_0 x0_1 a1 n1 c1 K w) : Calls Tryz.prog 51 #[(.agg #[(.int .i64 x0_0), (.int .i64 x0_1)]), (.slice a1 n1 c1)] w (Ret K) := callsR_of_bodyW mixed Tryz.func51 (of_decide_eq_true (by kernel_rfl)) (by rw [eq51]; exact h)

/-- slices.ContainsFunc[[]uint32,uint32] -/
def an52 : Ann := (.seq .nil (.seq .nil .nil))
def S52 (a0 : Option Addr) (n0 c0 : Nat) (x1 : Value) (K : Value → WP) : WP := 
  callW Tryz.prog 99 [(.slice a0 n0 c0), x1] (.one (.one (.int .i64))) fun (u1 : Int) => K (.bool (decide (u1 ≥ (0 : Int))))
theorem eq52 (a0 : Option Addr) (n0 c0 : Nat) (x1 : Value) (K : Value → WP) : bodyW Tryz.prog Tryz.f52 an52 false [(.slice a0 n0 c0), x1] K = S52 a0 n0 c0 x1 K := by kernel_rfl
theorem calls52 (a0 : Option Addr) (n0 c0 : Nat) (x1 : Value) {K : Value → WP} {w : World} (h : S52 a0 n0 c0 x1 K w) : Calls Tryz.prog 52 #[(.slice a0 n0 c0), x1] w (Ret K) := callsR_of_bodyW mixed Tryz.func52 (of_decide_eq_true (by kernel_rfl)) (by rw [eq52]; exact h)

/-- (*shadowbook/space.Space).Put$1 -/
def an53 : Ann := (.seq .nil (.seq .nil .nil))
def S53 (x0 : Int) (a1 : Addr) (K : Value → WP) : WP := 
  ldW .ptr a1 fun (u1 : Option Addr) =>
  callW Tryz.prog 54 [(.pointer u1), (.int .u32 x0)] (.one (.one .bool)) fun (u2 : Bool) => K (.bool (!u2))
theorem eq53 (x0 : Int) (a1 : Addr) (K : Value → WP) : bodyW Tryz.prog Tryz.f53 an53 false [(.int .u32 x0), (.pointer (some a1))] K = S53 x0 a1 K := by kernel_rfl
theorem calls53 (x0 : Int) (a1 : Addr) {K : Value → WP} {w : World} (h : S53 x0 a1 K w) : Calls Tryz.prog 53 #[(.int .u32 x0), (.pointer (some a1))] w (Ret K) := callsR_of_bodyW mixed Tryz.func53 (of_decide_eq_true (by kernel_rfl)) (by rw [eq53]; exact h)

/-- (*shadowbook/space.Space).asked -/
def an54 : Ann := (.seq .nil (.seq .nil .nil))
def S54 (x0 : Option Addr) (x1 : Int) (K : Value → WP) : WP := 
  splitW (decide (x1 ≥ (2 : Int))) (ptrW x0 fun (p1 : Addr) =>
  ldW (.int .i64) (((p1.add 1).add 1).add 1) fun (u2 : Int) =>
  splitW (decide ((IntKind.wrap .u64 x1) < (IntKind.wrap .u64 u2))) (ptrW x0 fun (p3 : Addr) =>
  ldW .slc ((p3.add 1).add 4) fun (u4 : (Option Addr × Nat × Nat)) =>
  callW Tryz.prog 79 [(.slice u4.1 u4.2.1 u4.2.2), (.int .u32 x1)] (.one (.one .bool)) fun (u5 : Bool) => K (.bool (!u5))) <| K (.bool false)) <| K (.bool false)
theorem eq54 (x0 : Option Addr) (x1 : Int) (K : Value → WP) : bodyW Tryz.prog Tryz.f54 an54 false [(.pointer x0), (.int .u32 x1)] K = S54 x0 x1 K := by kernel_rfl
theorem calls54 (x0 : Option Addr) (x1 : Int) {K : Value → WP} {w : World} (h : S54 x0 x1 K w) : Calls Tryz.prog 54 #[(.pointer x0), (.int .u32 x1)] w (Ret K) := callsR_of_bodyW mixed Tryz.func54 (of_decide_eq_true (by kernel_rfl)) (by rw [eq54]; exact h)

/-- (*shadowbook/space.Space).Put$2 -/
def an55 : Ann := (.seq .nil (.seq .nil .nil))
def S55 (x0 : Int) (a1 : Addr) (K : Value → WP) : WP := 
  ldW .ptr a1 fun (u1 : Option Addr) =>
  ptrW u1 fun (p2 : Addr) =>
  ldW .ptr (p2.add 8) fun (u3 : Option Addr) =>
  callW Tryz.prog 56 [(.pointer u3), (.int .u32 x0)] (.one (.one (.int .i64))) fun (u4 : Int) => K (.bool (u4 == (0 : Int)))
theorem eq55 (x0 : Int) (a1 : Addr) (K : Value → WP) : bodyW Tryz.prog Tryz.f55 an55 false [(.int .u32 x0), (.pointer (some a1))] K = S55 x0 a1 K := by kernel_rfl
theorem calls55 (x0 : Int) (a1 : Addr) {K : Value → WP} {w : World} (h : S55 x0 a1 K w) : Calls Tryz.prog 55 #[(.int .u32 x0), (.pointer (some a1))] w (Ret K) := callsR_of_bodyW mixed Tryz.func55 (of_decide_eq_true (by kernel_rfl)) (by rw [eq55]; exact h)

/-- (*shadowbook/counts.Counts).Get -/
def an56 : Ann := (.seq .nil (.seq (.seq .nil (.cond (.seq .nil .nil) .nil)) (.seq .nil .nil)))
def S56 (x0 : Option Addr) (x1 : Int) (K : Value → WP) : WP := 
  splitW (Option.isNone x0) (K (.int .i64 (0 : Int))) <|
  ptrW x0 fun (p1 : Addr) =>
  ldW .slc (p1.add 2) fun (u2 : (Option Addr × Nat × Nat)) =>
  splitW (decide ((IntKind.wrap .u64 x1) ≥ (IntKind.wrap .u64 ((u2.2.1 : Nat) : Int)))) (K (.int .i64 (0 : Int))) <|
  ptrW x0 fun (p3 : Addr) =>
  ldW .slc (p3.add 2) fun (u4 : (Option Addr × Nat × Nat)) =>
  guardW (0 ≤ x1 ∧ x1 < ((u4.2.1 : Nat) : Int)) <|
  ptrW u4.1 fun (p5 : Addr) =>
  ldW (.int .u16) (p5.add (Int.toNat x1 * 1)) fun (u6 : Int) => K (.int .i64 (IntKind.wrap .i64 u6))
theorem eq56 (x0 : Option Addr) (x1 : Int) (K : Value → WP) : bodyW Tryz.prog Tryz.f56 an56 false [(.pointer x0), (.int .u32 x1)] K = S56 x0 x1 K := by kernel_rfl
theorem calls56 (x0 : Option Addr) (x1 : Int) {K : Value → WP} {w : World} (h : S56 x0 x1 K w) : Calls Tryz.prog 56 #[(.pointer x0), (.int .u32 x1)] w (Ret K) := callsR_of_bodyW mixed Tryz.func56 (of_decide_eq_true (by kernel_rfl)) (by rw [eq56]; exact h)

/-- (*shadowbook/space.Space).take -/
def an57 : Ann := (.seq .nil (.seq .nil (.seq .nil (.block (.loop [] [1, 4, 1000000] (.block (.seq .nil (.seq (.seq .nil (.cond (.seq .nil .nil) .nil)) .nil))))))))
def S57 (x0 : Option Addr) (K : Value → WP) : WP := 
  newW (.cells #[(.pointer x0)] 24) fun (r1 : Nat) =>
  newW (.cells #[(.slice none 0 0)] 38) fun (r2 : Nat) =>
  loopW (Unit) () fun (y4 : Unit) (I3 : (Unit) → WP) =>
  drewW <|
  ldW .ptr (⟨r1, 0, none⟩ : Addr) fun (u5 : Option Addr) =>
  ptrW u5 fun (p6 : Addr) =>
  ldW .ptr (p6.add 8) fun (u7 : Option Addr) =>
  ldW .ptr (⟨r1, 0, none⟩ : Addr) fun (u8 : Option Addr) =>
  ptrW u8 fun (p9 : Addr) =>
  ldW .ptr (p9.add 7) fun (u10 : Option Addr) =>
  callW Tryz.prog 40 [(.pointer u7), (.pointer u10)] (.many [(.one (.int .u32)), (.one (.int .i64))]) fun (u11 : Int × Int × Unit) =>
  splitW (u11.2.1 != (0 : Int)) (leaveW Tryz.prog (⟨.fn (.func 100) #[(.pointer (some (⟨r2, 0, none⟩ : Addr))), (.pointer (some (⟨r1, 0, none⟩ : Addr)))], #[]⟩ :: []) <| K (.tuple #[(.int .u32 u11.1), (.int .i64 u11.2.1)])) <|
  ldW .ptr (⟨r1, 0, none⟩ : Addr) fun (u12 : Option Addr) =>
  ptrW u12 fun (p13 : Addr) =>
  ldW .ptr (p13.add 9) fun (u14 : Option Addr) =>
  callW Tryz.prog 56 [(.pointer u14), (.int .u32 u11.1)] (.one (.one (.int .i64))) fun (u15 : Int) =>
  splitW (u15 == (0 : Int)) (leaveW Tryz.prog (⟨.fn (.func 100) #[(.pointer (some (⟨r2, 0, none⟩ : Addr))), (.pointer (some (⟨r1, 0, none⟩ : Addr)))], #[]⟩ :: []) <| K (.tuple #[(.int .u32 u11.1), (.int .i64 u11.2.1)])) <|
  ldW .slc (⟨r2, 0, none⟩ : Addr) fun (u16 : (Option Addr × Nat × Nat)) =>
  newW (.cells #[(.int .u32 u11.1)] 35) fun (r17 : Nat) =>
  runW Tryz.prog (Builtin.append_ #[38, 38] 38 #[(.slice u16.1 u16.2.1 u16.2.2), (.slice (some (⟨r17, 0, none⟩ : Addr)) 1 1)]) .slc fun (u18 : (Option Addr × Nat × Nat)) =>
  stW (⟨r2, 0, none⟩ : Addr) (.slice u18.1 u18.2.1 u18.2.2) <| I3 ()
theorem eq57 (x0 : Option Addr) (K : Value → WP) : bodyW Tryz.prog Tryz.f57 an57 true [(.pointer x0)] K = S57 x0 K := by kernel_rfl
theorem calls57 (x0 : Option Addr) {K : Value → WP} {w : World} (h : S57 x0 K w) : Calls Tryz.prog 57 #[(.pointer x0)] w (Ret K) := callsR_of_bodyW mixed Tryz.func57 (of_decide_eq_true (by kernel_rfl)) (by rw [eq57]; exact h)

/-- shadowbook/octet.Put -/
def an58 : Ann := (.seq .nil (.seq (.seq .nil (.cond (.seq .nil .nil) .nil)) (.seq (.seq .nil (.block (.loop [(0, .sh (.one .slc)), (16, .sh (.one (.int .i64)))] [1, 15, 1000000] (.seq .nil (.seq (.cond .nil .nil) (.seq (.block (.seq .nil .nil)) .nil)))))) (.seq .nil .nil))))
def S58 (a0 : Option Addr) (n0 c0 : Nat) (x1 : Int) (x2 : Int) (K : Value → WP) : WP := 
  splitW (decide (x2 < (1 : Int))) (K (.slice a0 n0 c0)) <|
  splitW (decide (x2 > (8 : Int))) (K (.slice a0 n0 c0)) <|
  loopW ((Option Addr × Nat × Nat) × Int × Unit) ((a0, n0, c0), (0 : Int), ()) fun (y2 : (Option Addr × Nat × Nat) × Int × Unit) (I1 : ((Option Addr × Nat × Nat) × Int × Unit) → WP) =>
  splitW (decide (y2.2.1 < x2)) (guardW (0 ≤ (IntKind.wrap .i64 ((8 : Int) * y2.2.1))) <|
  newW (.cells #[(.int .u8 (IntKind.wrap .u8 (ishr .u64 x1 (IntKind.wrap .i64 ((8 : Int) * y2.2.1)))))] 5) fun (r3 : Nat) =>
  runW Tryz.prog (Builtin.append_ #[62, 62] 62 #[(.slice y2.1.1 y2.1.2.1 y2.1.2.2), (.slice (some (⟨r3, 0, none⟩ : Addr)) 1 1)]) .slc fun (u4 : (Option Addr × Nat × Nat)) => I1 ((u4.1, u4.2.1, u4.2.2), (IntKind.wrap .i64 (y2.2.1 + (1 : Int))), ())) <| K (.slice y2.1.1 y2.1.2.1 y2.1.2.2)
theorem eq58 (a0 : Option Addr) (n0 c0 : Nat) (x1 : Int) (x2 : Int) (K : Value → WP) : bodyW Tryz.prog Tryz.f58 an58 false [(.slice a0 n0 c0), (.int .u64 x1), (.int .i64 x2)] K = S58 a0 n0 c0 x1 x2 K := by kernel_rfl
theorem calls58 (a0 : Option Addr) (n0 c0 : Nat) (x1 : Int) (x2 : Int) {K : Value → WP} {w : World} (h : S58 a0 n0 c0 x1 x2 K w) : Calls Tryz.prog 58 #[(.slice a0 n0 c0), (.int .u64 x1), (.int .i64 x2)] w (Ret K) := callsR_of_bodyW mixed Tryz.func58 (of_decide_eq_true (by kernel_rfl)) (by rw [eq58]; exact h)

/-- shadowbook/space.write -/
def an59 : Ann := (.seq .nil (.seq .nil (.seq (.seq .nil (.cond (.seq .nil .nil) .nil)) (.seq .nil .nil))))
def S59 (x0 : Option Addr) (x1 : Int) (x2_0 : Int) (x2_1 : Int) (x2_2 : ByteArray) (K : Value → WP) : WP := 
  newW (.cells #[(.int .u8 x2_0), (.int .u64 x2_1), (.string x2_2)] 97) fun (r1 : Nat) =>
  drewW <|
  ldAW [(.int .u8), (.int .u64), .str] (⟨r1, 0, none⟩ : Addr) fun (u2 : (Int × Int × ByteArray × Unit)) =>
  callW Tryz.prog 38 [(.pointer x0)] (.one (.agg [(.int .i64), (.int .i64)])) fun (u3 : (Int × Int × Unit)) =>
  heldW [[((⟨r1, 0, none⟩ : Addr).add 0, (.int .u8 u2.1)), ((⟨r1, 0, none⟩ : Addr).add 1, (.int .u64 u2.2.1)), ((⟨r1, 0, none⟩ : Addr).add 2, (.string u2.2.2.1))]] <|
  callW Tryz.prog 101 [(.int .i64 u3.1), (.agg #[(.int .u8 u2.1), (.int .u64 u2.2.1), (.string u2.2.2.1)])] (.many [(.one .str), (.one (.int .i64))]) fun (u4 : ByteArray × Int × Unit) =>
  splitW (u4.2.1 != (0 : Int)) (K (.int .i64 u4.2.1)) <|
  callW Tryz.prog 42 [(.pointer x0), (.int .i64 (IntKind.wrap .i64 x1)), (.string u4.1)] (.one (.one (.int .i64))) fun (u5 : Int) => K (.int .i64 u5)
theorem eq59 (x0 : Option Addr) (x1 : Int) (x2_0 : Int) (x2_1 : Int) (x2_2 : ByteArray) (K : Value → WP) : bodyW Tryz.prog Tryz.f59 an59 false [(.pointer x0), (.int .u32 x1), (.agg #[(.int .u8 x2_0), (.int .u64 x2_1), (.string x2_2)])] K = S59 x0 x1 x2_0 x2_1 x2_2 K := by kernel_rfl
theorem calls59 (x0 : Option Addr) (x1 : Int) (x2_0 : Int) (x2_1 : Int) (x2_2 : ByteArray) {K : Value → WP} {w : World} (h : S59 x0 x1 x2_0 x2_1 x2_2 K w) : Calls Tryz.prog 59 #[(.pointer x0), (.int .u32 x1), (.agg #[(.int .u8 x2_0), (.int .u64 x2_1), (.string x2_2)])] w (Ret K) := callsR_of_bodyW mixed Tryz.func59 (of_decide_eq_true (by kernel_rfl)) (by rw [eq59]; exact h)

/-- (*shadowbook/counts.Counts).Sub -/
def an60 : Ann := (.seq .nil (.seq .nil (.seq (.seq .nil (.cond (.seq .nil .nil) .nil)) (.seq .nil (.seq .nil .nil)))))
def S60 (x0 : Option Addr) (x1 : Int) (K : Value → WP) : WP := 
  callW Tryz.prog 102 [(.pointer x0), (.int .u32 x1)] (.many [(.one .ptr), (.one (.int .i64))]) fun (u1 : Option Addr × Int × Unit) =>
  splitW (u1.2.1 != (0 : Int)) (K (.tuple #[(.int .i64 (0 : Int)), (.int .i64 u1.2.1)])) <|
  ptrW u1.1 fun (p2 : Addr) =>
  ldW (.int .u16) p2 fun (u3 : Int) =>
  ptrW u1.1 fun (p4 : Addr) =>
  stW p4 (.int .u16 (IntKind.wrap .u16 (u3 - (1 : Int)))) <|
  ptrW u1.1 fun (p5 : Addr) =>
  ldW (.int .u16) p5 fun (u6 : Int) => K (.tuple #[(.int .i64 (IntKind.wrap .i64 u6)), (.int .i64 (0 : Int))])
theorem eq60 (x0 : Option Addr) (x1 : Int) (K : Value → WP) : bodyW Tryz.prog Tryz.f60 an60 false [(.pointer x0), (.int .u32 x1)] K = S60 x0 x1 K := by kernel_rfl
theorem calls60 (x0 : Option Addr) (x1 : Int) {K : Value → WP} {w : World} (h : S60 x0 x1 K w) : Calls Tryz.prog 60 #[(.pointer x0), (.int .u32 x1)] w (Ret K) := callsR_of_bodyW mixed Tryz.func60 (of_decide_eq_true (by kernel_rfl)) (by rw [eq60]; exact h)

/-- slices.Reverse[[]uint32,uint32] -/
def an61 : Ann := (.seq .nil (.block (.loop [(2, .sh (.one (.int .i64))), (3, .sh (.one (.int .i64)))] [0, 1000000] (.seq (.seq .nil (.cond .nil .nil)) (.seq (.block .nil) .nil)))))
def S61 (a0 : Option Addr) (n0 c0 : Nat) (K : Value → WP) : WP := 
  loopW (Int × Int × Unit) ((0 : Int), (IntKind.wrap .i64 (((n0 : Nat) : Int) - (1 : Int))), ()) fun (y2 : Int × Int × Unit) (I1 : (Int × Int × Unit) → WP) =>
  splitW (decide (y2.1 < y2.2.1)) (drewW <|
  guardW (0 ≤ y2.2.1 ∧ y2.2.1 < ((n0 : Nat) : Int)) <|
  ptrW a0 fun (p3 : Addr) =>
  ldW (.int .u32) (p3.add (Int.toNat y2.2.1 * 1)) fun (u4 : Int) =>
  guardW (0 ≤ y2.1 ∧ y2.1 < ((n0 : Nat) : Int)) <|
  ptrW a0 fun (p5 : Addr) =>
  ldW (.int .u32) (p5.add (Int.toNat y2.1 * 1)) fun (u6 : Int) =>
  guardW (0 ≤ y2.1 ∧ y2.1 < ((n0 : Nat) : Int)) <|
  ptrW a0 fun (p7 : Addr) =>
  stW (p7.add (Int.toNat y2.1 * 1)) (.int .u32 u4) <|
  guardW (0 ≤ y2.2.1 ∧ y2.2.1 < ((n0 : Nat) : Int)) <|
  ptrW a0 fun (p8 : Addr) =>
  stW (p8.add (Int.toNat y2.2.1 * 1)) (.int .u32 u6) <| I1 ((IntKind.wrap .i64 (y2.1 + (1 : Int))), (IntKind.wrap .i64 (y2.2.1 - (1 : Int))), ())) <| K (.tuple #[])
theorem eq61 (a0 : Option Addr) (n0 c0 : Nat) (K : Value → WP) : bodyW Tryz.prog Tryz.f61 an61 false [(.slice a0 n0 c0)] K = S61 a0 n0 c0 K := by kernel_rfl
theorem calls61 (a0 : Option Addr) (n0 c0 : Nat) {K : Value → WP} {w : World} (h : S61 a0 n0 c0 K w) : Calls Tryz.prog 61 #[(.slice a0 n0 c0)] w (Ret K) := callsR_of_bodyW mixed Tryz.func61 (of_decide_eq_true (by kernel_rfl)) (by rw [eq61]; exact h)

/-- (*shadowbook/space.Space).free -/
def an62 : Ann := (.seq .nil (.seq .nil .nil))
def S62 (x0 : Option Addr) (K : Value → WP) : WP := 
  newW (.cells #[(.pointer x0)] 24) fun (r1 : Nat) => K (.func (.func 103) #[] #[(.pointer (some (⟨r1, 0, none⟩ : Addr)))])
theorem eq62 (x0 : Option Addr) (K : Value → WP) : bodyW Tryz.prog Tryz.f62 an62 false [(.pointer x0)] K = S62 x0 K := by kernel_rfl
theorem calls62 (x0 : Option Addr) {K : Value → WP} {w : World} (h : S62 x0 K w) : Calls Tryz.prog 62 #[(.pointer x0)] w (Ret K) := callsR_of_bodyW mixed Tryz.func62 (of_decide_eq_true (by kernel_rfl)) (by rw [eq62]; exact h)

/-- (*shadowbook/space.Space).page -/
def an63 : Ann := (.seq .nil (.seq .nil (.seq (.seq .nil (.cond (.seq .nil .nil) .nil)) (.seq .nil (.seq .nil (.seq (.seq .nil (.cond (.seq .nil .nil) .nil)) (.seq .nil (.seq (.seq .nil (.block (.loop [(41, .sh (.one (.int .u64)))] [0, 4, 7, 40, 1000000] (.seq .nil (.seq (.cond .nil .nil) (.seq (.block (.seq .nil (.seq (.seq .nil (.cond (.seq .nil .nil) .nil)) .nil))) .nil)))))) (.seq .nil (.seq .nil (.seq .nil .nil)))))))))))
def S63 (x0 : Option Addr) (x1 : ByteArray) (K : Value → WP) : WP := 
  newW (.cells #[(.int .u8 (0 : Int)), (.slice none 0 0), (.string ByteArray.empty)] 40) fun (r1 : Nat) =>
  callW Tryz.prog 94 [(.string x1)] (.many [(.agg [(.int .u8), (.int .u64), .str]), (.one (.int .i64))]) fun (u2 : (Int × Int × ByteArray × Unit) × Int × Unit) =>
  newW (.cells #[(.int .u8 (0 : Int)), (.int .u64 (0 : Int)), (.string ByteArray.empty)] 97) fun (r3 : Nat) =>
  guardW ((#[(.int .u8 u2.1.1), (.int .u64 u2.1.2.1), (.string u2.1.2.2.1)] : Array Value).size = 3) <|
  stAW (⟨r3, 0, none⟩ : Addr) [(.int .u8 u2.1.1), (.int .u64 u2.1.2.1), (.string u2.1.2.2.1)] <|
  splitW (u2.2.1 != (0 : Int)) (ldAW [(.int .u8), .slc, .str] (⟨r1, 0, none⟩ : Addr) fun (u4 : (Int × (Option Addr × Nat × Nat) × ByteArray × Unit)) =>
  guardW ((#[(.int .u8 u4.1), (.slice u4.2.1.1 u4.2.1.2.1 u4.2.1.2.2), (.string u4.2.2.1)] : Array Value).size = 3) <|
  stAW (⟨r1, 0, none⟩ : Addr) [(.int .u8 u4.1), (.slice u4.2.1.1 u4.2.1.2.1 u4.2.1.2.2), (.string u4.2.2.1)] <|
  ldAW [(.int .u8), .slc, .str] (⟨r1, 0, none⟩ : Addr) fun (u5 : (Int × (Option Addr × Nat × Nat) × ByteArray × Unit)) => K (.tuple #[(.agg #[(.int .u8 u5.1), (.slice u5.2.1.1 u5.2.1.2.1 u5.2.1.2.2), (.string u5.2.2.1)]), (.int .i64 (10 : Int))])) <|
  ldW (.int .u8) (⟨r3, 0, none⟩ : Addr) fun (u6 : Int) =>
  splitW (decide (u6 < (3 : Int))) (ldAW [(.int .u8), .slc, .str] (⟨r1, 0, none⟩ : Addr) fun (u7 : (Int × (Option Addr × Nat × Nat) × ByteArray × Unit)) =>
  guardW ((#[(.int .u8 u7.1), (.slice u7.2.1.1 u7.2.1.2.1 u7.2.1.2.2), (.string u7.2.2.1)] : Array Value).size = 3) <|
  stAW (⟨r1, 0, none⟩ : Addr) [(.int .u8 u7.1), (.slice u7.2.1.1 u7.2.1.2.1 u7.2.1.2.2), (.string u7.2.2.1)] <|
  ldAW [(.int .u8), .slc, .str] (⟨r1, 0, none⟩ : Addr) fun (u8 : (Int × (Option Addr × Nat × Nat) × ByteArray × Unit)) => K (.tuple #[(.agg #[(.int .u8 u8.1), (.slice u8.2.1.1 u8.2.1.2.1 u8.2.1.2.2), (.string u8.2.2.1)]), (.int .i64 (10 : Int))])) <|
  ldW .str ((⟨r3, 0, none⟩ : Addr).add 2) fun (u9 : ByteArray) =>
  runW Tryz.prog (Go.convert 9 62 (.string u9)) .slc fun (u10 : (Option Addr × Nat × Nat)) =>
  callW Tryz.prog 104 [(.slice u10.1 u10.2.1 u10.2.2)] (.one (.one .ptr)) fun (u11 : Option Addr) =>
  callW Tryz.prog 105 [(.pointer u11), (.int .i64 (2 : Int))] (.many [(.one (.int .u64)), (.one (.int .i64))]) fun (u12 : Int × Int × Unit) =>
  splitW (u12.2.1 != (0 : Int)) (ldAW [(.int .u8), .slc, .str] (⟨r1, 0, none⟩ : Addr) fun (u13 : (Int × (Option Addr × Nat × Nat) × ByteArray × Unit)) =>
  guardW ((#[(.int .u8 u13.1), (.slice u13.2.1.1 u13.2.1.2.1 u13.2.1.2.2), (.string u13.2.2.1)] : Array Value).size = 3) <|
  stAW (⟨r1, 0, none⟩ : Addr) [(.int .u8 u13.1), (.slice u13.2.1.1 u13.2.1.2.1 u13.2.1.2.2), (.string u13.2.2.1)] <|
  ldAW [(.int .u8), .slc, .str] (⟨r1, 0, none⟩ : Addr) fun (u14 : (Int × (Option Addr × Nat × Nat) × ByteArray × Unit)) => K (.tuple #[(.agg #[(.int .u8 u14.1), (.slice u14.2.1.1 u14.2.1.2.1 u14.2.1.2.2), (.string u14.2.2.1)]), (.int .i64 (10 : Int))])) <|
  ldW (.int .u8) (⟨r3, 0, none⟩ : Addr) fun (u15 : Int) =>
  stW (⟨r1, 0, none⟩ : Addr) (.int .u8 u15) <|
  loopW (Int × Unit) ((0 : Int), ()) fun (y17 : Int × Unit) (I16 : (Int × Unit) → WP) =>
  splitW (decide (y17.1 < u12.1)) (callW Tryz.prog 105 [(.pointer u11), (.int .i64 (4 : Int))] (.many [(.one (.int .u64)), (.one (.int .i64))]) fun (u18 : Int × Int × Unit) =>
  splitW (u18.2.1 != (0 : Int)) (guardW ((#[(.int .u8 (0 : Int)), (.slice none 0 0), (.string ByteArray.empty)] : Array Value).size = 3) <|
  stAW (⟨r1, 0, none⟩ : Addr) [(.int .u8 (0 : Int)), (.slice none 0 0), (.string ByteArray.empty)] <|
  ldAW [(.int .u8), .slc, .str] (⟨r1, 0, none⟩ : Addr) fun (u19 : (Int × (Option Addr × Nat × Nat) × ByteArray × Unit)) => K (.tuple #[(.agg #[(.int .u8 u19.1), (.slice u19.2.1.1 u19.2.1.2.1 u19.2.1.2.2), (.string u19.2.2.1)]), (.int .i64 (10 : Int))])) <|
  splitW (decide (u18.1 < (2 : Int))) (guardW ((#[(.int .u8 (0 : Int)), (.slice none 0 0), (.string ByteArray.empty)] : Array Value).size = 3) <|
  stAW (⟨r1, 0, none⟩ : Addr) [(.int .u8 (0 : Int)), (.slice none 0 0), (.string ByteArray.empty)] <|
  ldAW [(.int .u8), .slc, .str] (⟨r1, 0, none⟩ : Addr) fun (u20 : (Int × (Option Addr × Nat × Nat) × ByteArray × Unit)) => K (.tuple #[(.agg #[(.int .u8 u20.1), (.slice u20.2.1.1 u20.2.1.2.1 u20.2.1.2.2), (.string u20.2.2.1)]), (.int .i64 (10 : Int))])) <|
  ptrW x0 fun (p21 : Addr) =>
  ldW (.int .i64) (((p21.add 1).add 1).add 1) fun (u22 : Int) =>
  splitW (decide (u18.1 ≥ (IntKind.wrap .u64 u22))) (guardW ((#[(.int .u8 (0 : Int)), (.slice none 0 0), (.string ByteArray.empty)] : Array Value).size = 3) <|
  stAW (⟨r1, 0, none⟩ : Addr) [(.int .u8 (0 : Int)), (.slice none 0 0), (.string ByteArray.empty)] <|
  ldAW [(.int .u8), .slc, .str] (⟨r1, 0, none⟩ : Addr) fun (u23 : (Int × (Option Addr × Nat × Nat) × ByteArray × Unit)) => K (.tuple #[(.agg #[(.int .u8 u23.1), (.slice u23.2.1.1 u23.2.1.2.1 u23.2.1.2.2), (.string u23.2.2.1)]), (.int .i64 (10 : Int))])) <|
  ldW .slc ((⟨r1, 0, none⟩ : Addr).add 1) fun (u24 : (Option Addr × Nat × Nat)) =>
  newW (.cells #[(.int .u32 (IntKind.wrap .u32 u18.1))] 35) fun (r25 : Nat) =>
  runW Tryz.prog (Builtin.append_ #[38, 38] 38 #[(.slice u24.1 u24.2.1 u24.2.2), (.slice (some (⟨r25, 0, none⟩ : Addr)) 1 1)]) .slc fun (u26 : (Option Addr × Nat × Nat)) =>
  stW ((⟨r1, 0, none⟩ : Addr).add 1) (.slice u26.1 u26.2.1 u26.2.2) <| I16 ((IntKind.wrap .u64 (y17.1 + (1 : Int))), ())) <|
  callW Tryz.prog 107 [(.pointer u11)] (.one (.one (.int .i64))) fun (u27 : Int) =>
  callW Tryz.prog 106 [(.pointer u11), (.int .i64 u27)] (.many [(.one .slc), (.one (.int .i64))]) fun (u28 : (Option Addr × Nat × Nat) × Int × Unit) =>
  runW Tryz.prog (Go.convert 62 9 (.slice u28.1.1 u28.1.2.1 u28.1.2.2)) .str fun (u29 : ByteArray) =>
  stW ((⟨r1, 0, none⟩ : Addr).add 2) (.string u29) <|
  ldAW [(.int .u8), .slc, .str] (⟨r1, 0, none⟩ : Addr) fun (u30 : (Int × (Option Addr × Nat × Nat) × ByteArray × Unit)) =>
  guardW ((#[(.int .u8 u30.1), (.slice u30.2.1.1 u30.2.1.2.1 u30.2.1.2.2), (.string u30.2.2.1)] : Array Value).size = 3) <|
  stAW (⟨r1, 0, none⟩ : Addr) [(.int .u8 u30.1), (.slice u30.2.1.1 u30.2.1.2.1 u30.2.1.2.2), (.string u30.2.2.1)] <|
  ldAW [(.int .u8), .slc, .str] (⟨r1, 0, none⟩ : Addr) fun (u31 : (Int × (Option Addr × Nat × Nat) × ByteArray × Unit)) => K (.tuple #[(.agg #[(.int .u8 u31.1), (.slice u31.2.1.1 u31.2.1.2.1 u31.2.1.2.2), (.string u31.2.2.1)]), (.int .i64 u28.2.1)])
theorem eq63 (x0 : Option Addr) (x1 : ByteArray) (K : Value → WP) : bodyW Tryz.prog Tryz.f63 an63 false [(.pointer x0), (.string x1)] K = S63 x0 x1 K := by kernel_rfl
theorem calls63 (x0 : Option Addr) (x1 : ByteArray) {K : Value → WP} {w : World} (h : S63 x0 x1 K w) : Calls Tryz.prog 63 #[(.pointer x0), (.string x1)] w (Ret K) := callsR_of_bodyW mixed Tryz.func63 (of_decide_eq_true (by kernel_rfl)) (by rw [eq63]; exact h)

/-- shadowbook/frame.Room -/
def an64 : Ann := (.seq .nil (.seq (.seq .nil (.cond (.seq .nil .nil) .nil)) (.seq .nil .nil)))
def S64 (x0 : Int) (K : Value → WP) : WP := 
  callW Tryz.prog 45 [(.agg #[(.int .i64 x0), (.int .i64 (8 : Int))])] (.one (.one (.int .i64))) fun (u1 : Int) =>
  splitW (u1 != (0 : Int)) (K (.int .i64 (0 : Int))) <| K (.int .i64 (IntKind.wrap .i64 ((IntKind.wrap .i64 (x0 - (12 : Int))) - (4 : Int))))
theorem eq64 (x0 : Int) (K : Value → WP) : bodyW Tryz.prog Tryz.f64 an64 false [(.int .i64 x0)] K = S64 x0 K := by kernel_rfl
theorem calls64 (x0 : Int) {K : Value → WP} {w : World} (h : S64 x0 K w) : Calls Tryz.prog 64 #[(.int .i64 x0)] w (Ret K) := callsR_of_bodyW mixed Tryz.func64 (of_decide_eq_true (by kernel_rfl)) (by rw [eq64]; exact h)

/-- shadowbook/super.Other -/
def an65 : Ann := (.seq .nil (.seq (.seq .nil (.cond (.seq .nil .nil) .nil)) (.seq .nil .nil)))
def S65 (x0 : Int) (K : Value → WP) : WP := 
  splitW (x0 == (0 : Int)) (K (.int .i64 (1 : Int))) <| K (.int .i64 (0 : Int))
theorem eq65 (x0 : Int) (K : Value → WP) : bodyW Tryz.prog Tryz.f65 an65 false [(.int .i64 x0)] K = S65 x0 K := by kernel_rfl
theorem calls65 (x0 : Int) {K : Value → WP} {w : World} (h : S65 x0 K w) : Calls Tryz.prog 65 #[(.int .i64 x0)] w (Ret K) := callsR_of_bodyW mixed Tryz.func65 (of_decide_eq_true (by kernel_rfl)) (by rw [eq65]; exact h)

/-- (*shadowbook/counts.Counts).Add -/
def an66 : Ann := (.seq .nil (.seq .nil (.seq (.seq .nil (.cond (.seq .nil .nil) .nil)) (.seq (.seq .nil (.cond (.seq .nil .nil) .nil)) (.seq .nil (.seq .nil .nil))))))
def S66 (x0 : Option Addr) (x1 : Int) (K : Value → WP) : WP := 
  callW Tryz.prog 102 [(.pointer x0), (.int .u32 x1)] (.many [(.one .ptr), (.one (.int .i64))]) fun (u1 : Option Addr × Int × Unit) =>
  splitW (u1.2.1 != (0 : Int)) (K (.int .i64 u1.2.1)) <|
  ptrW u1.1 fun (p2 : Addr) =>
  ldW (.int .u16) p2 fun (u3 : Int) =>
  splitW (u3 == (65535 : Int)) (K (.int .i64 (12 : Int))) <|
  ptrW u1.1 fun (p4 : Addr) =>
  ldW (.int .u16) p4 fun (u5 : Int) =>
  ptrW u1.1 fun (p6 : Addr) =>
  stW p6 (.int .u16 (IntKind.wrap .u16 (u5 + (1 : Int)))) <| K (.int .i64 (0 : Int))
theorem eq66 (x0 : Option Addr) (x1 : Int) (K : Value → WP) : bodyW Tryz.prog Tryz.f66 an66 false [(.pointer x0), (.int .u32 x1)] K = S66 x0 x1 K := by kernel_rfl
theorem calls66 (x0 : Option Addr) (x1 : Int) {K : Value → WP} {w : World} (h : S66 x0 x1 K w) : Calls Tryz.prog 66 #[(.pointer x0), (.int .u32 x1)] w (Ret K) := callsR_of_bodyW mixed Tryz.func66 (of_decide_eq_true (by kernel_rfl)) (by rw [eq66]; exact h)

/-- (*shadowbook/shadowbooklaw13.Run).pick -/
def an67 : Ann := (.seq .nil (.seq (.seq .nil (.cond (.seq .nil .nil) .nil)) (.seq .nil .nil)))
def S67 (x0 : Option Addr) (x1 : Int) (K : Value → WP) : WP := 
  ptrW x0 fun (p1 : Addr) =>
  ldW .slc (p1.add 2) fun (u2 : (Option Addr × Nat × Nat)) =>
  splitW (((u2.2.1 : Nat) : Int) == (0 : Int)) (K (.int .i64 (-1 : Int))) <|
  ptrW x0 fun (p3 : Addr) =>
  ldW .slc (p3.add 2) fun (u4 : (Option Addr × Nat × Nat)) =>
  callW Tryz.prog 68 [(.int .i64 x1), (.int .i64 ((u4.2.1 : Nat) : Int))] (.one (.one (.int .i64))) fun (u5 : Int) => K (.int .i64 u5)
theorem eq67 (x0 : Option Addr) (x1 : Int) (K : Value → WP) : bodyW Tryz.prog Tryz.f67 an67 false [(.pointer x0), (.int .i64 x1)] K = S67 x0 x1 K := by kernel_rfl
theorem calls67 (x0 : Option Addr) (x1 : Int) {K : Value → WP} {w : World} (h : S67 x0 x1 K w) : Calls Tryz.prog 67 #[(.pointer x0), (.int .i64 x1)] w (Ret K) := callsR_of_bodyW mixed Tryz.func67 (of_decide_eq_true (by kernel_rfl)) (by rw [eq67]; exact h)

/-- shadowbook/shadowbookkit.Pick -/
def an68 : Ann := (.seq .nil (.seq (.seq .nil (.cond (.seq .nil .nil) .nil)) (.seq .nil (.seq (.seq .nil (.cond .nil .nil)) (.seq .nil .nil)))))
def S68 (x0 : Int) (x1 : Int) (K : Value → WP) : WP := 
  splitW (decide (x1 < (1 : Int))) (K (.int .i64 (0 : Int))) <|
  guardW (x1 ≠ 0) <|
  splitW (decide ((Int.tmod x0 x1) < (0 : Int))) (K (.int .i64 (IntKind.wrap .i64 ((Int.tmod x0 x1) + x1)))) <| K (.int .i64 (Int.tmod x0 x1))
theorem eq68 (x0 : Int) (x1 : Int) (K : Value → WP) : bodyW Tryz.prog Tryz.f68 an68 false [(.int .i64 x0), (.int .i64 x1)] K = S68 x0 x1 K := by kernel_rfl
theorem calls68 (x0 : Int) (x1 : Int) {K : Value → WP} {w : World} (h : S68 x0 x1 K w) : Calls Tryz.prog 68 #[(.int .i64 x0), (.int .i64 x1)] w (Ret K) := callsR_of_bodyW mixed Tryz.func68 (of_decide_eq_true (by kernel_rfl)) (by rw [eq68]; exact h)

/-- (*shadowbook/shadowbooklaw13.Run).page -/
def an69 : Ann := (.seq .nil (.seq .nil (.seq .nil .nil)))
def S69 (x0 : Option Addr) (x1_0 : Int) (x1_1 : Int) (x1_2 : Int) (x1_3 : Int) (x1_4 : ByteArray) (K : Value → WP) : WP := 
  newW (.cells #[(.int .i64 x1_0), (.int .u8 x1_1), (.int .i64 x1_2), (.int .i64 x1_3), (.string x1_4)] 59) fun (r1 : Nat) =>
  newW (.cells #[(.int .u8 (0 : Int)), (.slice none 0 0), (.string ByteArray.empty)] 40) fun (r2 : Nat) =>
  drewW <|
  ldW (.int .i64) ((⟨r1, 0, none⟩ : Addr).add 2) fun (u3 : Int) =>
  ptrW x0 fun (p4 : Addr) =>
  ldW .slc (p4.add 2) fun (u5 : (Option Addr × Nat × Nat)) =>
  callW Tryz.prog 68 [(.int .i64 u3), (.int .i64 (if (IntKind.wrap .i64 (((u5.2.1 : Nat) : Int) + (1 : Int))) < (4 : Int) then (IntKind.wrap .i64 (((u5.2.1 : Nat) : Int) + (1 : Int))) else (4 : Int)))] (.one (.one (.int .i64))) fun (u6 : Int) =>
  drewW <|
  ldW (.int .u8) ((⟨r1, 0, none⟩ : Addr).add 1) fun (u7 : Int) =>
  ptrW x0 fun (p8 : Addr) =>
  ldW .slc (p8.add 2) fun (u9 : (Option Addr × Nat × Nat)) =>
  ptrW x0 fun (p10 : Addr) =>
  ldW .slc (p10.add 2) fun (u11 : (Option Addr × Nat × Nat)) =>
  guardW (0 ≤ (IntKind.wrap .i64 (((u11.2.1 : Nat) : Int) - u6)) ∧ (IntKind.wrap .i64 (((u11.2.1 : Nat) : Int) - u6)) ≤ ((u9.2.1 : Nat) : Int)) <|
  ldW .str ((⟨r1, 0, none⟩ : Addr).add 4) fun (u12 : ByteArray) =>
  callW Tryz.prog 70 [(.slice (cutAddr u9.1 (Int.toNat (IntKind.wrap .i64 (((u11.2.1 : Nat) : Int) - u6))) u9.2.2 1) (u9.2.1 - (Int.toNat (IntKind.wrap .i64 (((u11.2.1 : Nat) : Int) - u6)))) (u9.2.2 - (Int.toNat (IntKind.wrap .i64 (((u11.2.1 : Nat) : Int) - u6)))))] (.one (.one .slc)) fun (u13 : (Option Addr × Nat × Nat)) =>
  heldW [[(((⟨r1, 0, none⟩ : Addr).add 4), (.string u12))], [(((⟨r1, 0, none⟩ : Addr).add 1), (.int .u8 u7))]] <|
  guardW ((#[(.int .u8 (IntKind.wrap .u8 ((3 : Int) + (Int.tmod u7 (200 : Int))))), (.slice u13.1 u13.2.1 u13.2.2), (.string u12)] : Array Value).size = 3) <|
  stAW (⟨r2, 0, none⟩ : Addr) [(.int .u8 (IntKind.wrap .u8 ((3 : Int) + (Int.tmod u7 (200 : Int))))), (.slice u13.1 u13.2.1 u13.2.2), (.string u12)] <|
  ldAW [(.int .u8), .slc, .str] (⟨r2, 0, none⟩ : Addr) fun (u14 : (Int × (Option Addr × Nat × Nat) × ByteArray × Unit)) => K (.agg #[(.int .u8 u14.1), (.slice u14.2.1.1 u14.2.1.2.1 u14.2.1.2.2), (.string u14.2.2.1)])
theorem eq69 (x0 : Option Addr) (x1_0 : Int) (x1_1 : Int) (x1_2 : Int) (x1_3 : Int) (x1_4 : ByteArray) (K : Value → WP) : bodyW Tryz.prog Tryz.f69 an69 false [(.pointer x0), (.agg #[(.int .i64 x1_0), (.int .u8 x1_1), (.int .i64 x1_2), (.int .i64 x1_3), (.string x1_4)])] K = S69 x0 x1_0 x1_1 x1_2 x1_3 x1_4 K := by kernel_rfl
theorem calls69 (x0 : Option Addr) (x1_0 : Int) (x1_1 : Int) (x1_2 : Int) (x1_3 : Int) (x1_4 : ByteArray) {K : Value → WP} {w : World} (h : S69 x0 x1_0 x1_1 x1_2 x1_3 x1_4 K w) : Calls Tryz.prog 69 #[(.pointer x0), (.agg #[(.int .i64 x1_0), (.int .u8 x1_1), (.int .i64 x1_2), (.int .i64 x1_3), (.string x1_4)])] w (Ret K) := callsR_of_bodyW mixed Tryz.func69 (of_decide_eq_true (by kernel_rfl)) (by rw [eq69]; exact h)

/-- shadowbook/shadowbookkit.Own[uint32] -/
def an70 : Ann := (.seq .nil (.seq .nil .nil))
def S70 (a0 : Option Addr) (n0 c0 : Nat) (K : Value → WP) : WP := 
  newW (.cells #[] 35) fun (r1 : Nat) =>
  runW Tryz.prog (Builtin.append_ #[38, 38] 38 #[(.slice (some (⟨r1, 0, none⟩ : Addr)) 0 0), (.slice a0 n0 c0)]) .slc fun (u2 : (Option Addr × Nat × Nat)) => K (.slice u2.1 u2.2.1 u2.2.2)
theorem eq70 (a0 : Option Addr) (n0 c0 : Nat) (K : Value → WP) : bodyW Tryz.prog Tryz.f70 an70 false [(.slice a0 n0 c0)] K = S70 a0 n0 c0 K := by kernel_rfl
theorem calls70 (a0 : Option Addr) (n0 c0 : Nat) {K : Value → WP} {w : World} (h : S70 a0 n0 c0 K w) : Calls Tryz.prog 70 #[(.slice a0 n0 c0)] w (Ret K) := callsR_of_bodyW mixed Tryz.func70 (of_decide_eq_true (by kernel_rfl)) (by rw [eq70]; exact h)

/-- (*shadowbook/shadowbooklaw13.Run).mark -/
def an71 : Ann := (.seq .nil (.seq (.block (.seq .nil (.cond (.seq .nil (.seq .nil .nil)) (.seq .nil (.cond (.seq .nil (.seq .nil .nil)) .nil))))) (.seq .nil (.seq .nil .nil))))
def S71 (x0 : Option Addr) (x1 : Int) (K : Value → WP) : WP := 
  ptrW x0 fun (p1 : Addr) =>
  ldW .bool (p1.add 5) fun (u2 : Bool) =>
  splitW (!u2) (ptrW x0 fun (p3 : Addr) =>
  ldW .slc (p3.add 2) fun (u4 : (Option Addr × Nat × Nat)) =>
  callW Tryz.prog 70 [(.slice u4.1 u4.2.1 u4.2.2)] (.one (.one .slc)) fun (u5 : (Option Addr × Nat × Nat)) =>
  ptrW x0 fun (p6 : Addr) =>
  stW (p6.add 4) (.slice u5.1 u5.2.1 u5.2.2) <|
  ptrW x0 fun (p7 : Addr) =>
  stW (p7.add 5) (.bool true) <|
  ptrW x0 fun (p8 : Addr) =>
  ldW .ptr (p8.add 1) fun (u9 : Option Addr) =>
  callW Tryz.prog 15 [(.pointer u9)] (.one (.one (.int .i64))) fun (u10 : Int) => K (.int .i64 u10)) <|
  splitW ((Int.tmod x1 (2 : Int)) == (0 : Int)) (ptrW x0 fun (p11 : Addr) =>
  ldW .slc (p11.add 4) fun (u12 : (Option Addr × Nat × Nat)) =>
  callW Tryz.prog 70 [(.slice u12.1 u12.2.1 u12.2.2)] (.one (.one .slc)) fun (u13 : (Option Addr × Nat × Nat)) =>
  ptrW x0 fun (p14 : Addr) =>
  stW (p14.add 2) (.slice u13.1 u13.2.1 u13.2.2) <|
  ptrW x0 fun (p15 : Addr) =>
  stW (p15.add 5) (.bool false) <|
  ptrW x0 fun (p16 : Addr) =>
  ldW .ptr (p16.add 1) fun (u17 : Option Addr) =>
  callW Tryz.prog 18 [(.pointer u17)] (.one (.one (.int .i64))) fun (u18 : Int) => K (.int .i64 u18)) <|
  ptrW x0 fun (p19 : Addr) =>
  stW (p19.add 5) (.bool false) <|
  ptrW x0 fun (p20 : Addr) =>
  ldW .ptr (p20.add 1) fun (u21 : Option Addr) =>
  callW Tryz.prog 19 [(.pointer u21)] (.one (.one (.int .i64))) fun (u22 : Int) => K (.int .i64 u22)
theorem eq71 (x0 : Option Addr) (x1 : Int) (K : Value → WP) : bodyW Tryz.prog Tryz.f71 an71 false [(.pointer x0), (.int .i64 x1)] K = S71 x0 x1 K := by kernel_rfl
theorem calls71 (x0 : Option Addr) (x1 : Int) {K : Value → WP} {w : World} (h : S71 x0 x1 K w) : Calls Tryz.prog 71 #[(.pointer x0), (.int .i64 x1)] w (Ret K) := callsR_of_bodyW mixed Tryz.func71 (of_decide_eq_true (by kernel_rfl)) (by rw [eq71]; exact h)

/-- slices.Clone[[]shadowbook/api.Write,shadowbook/api.Write] -/
def an73 : Ann := (.seq .nil (.seq (.seq .nil (.cond (.seq .nil .nil) .nil)) (.seq .nil .nil)))
def S73 (a0 : Option Addr) (n0 c0 : Nat) (K : Value → WP) : WP := 
  splitW (Option.isNone a0) (K (.slice none 0 0)) <|
  newW (.cells #[] 120) fun (r1 : Nat) =>
  runW Tryz.prog (Builtin.append_ #[65, 65] 65 #[(.slice (some (⟨r1, 0, none⟩ : Addr)) 0 0), (.slice a0 n0 c0)]) .slc fun (u2 : (Option Addr × Nat × Nat)) => K (.slice u2.1 u2.2.1 u2.2.2)
theorem eq73 (a0 : Option Addr) (n0 c0 : Nat) (K : Value → WP) : bodyW Tryz.prog Tryz.f73 an73 false [(.slice a0 n0 c0)] K = S73 a0 n0 c0 K := by kernel_rfl
theorem calls73 (a0 : Option Addr) (n0 c0 : Nat) {K : Value → WP} {w : World} (h : S73 a0 n0 c0 K w) : Calls Tryz.prog 73 #[(.slice a0 n0 c0)] w (Ret K) := callsR_of_bodyW mixed Tryz.func73 (of_decide_eq_true (by kernel_rfl)) (by rw [eq73]; exact h)

/-- shadowbook/shadowbookkit.Same[uint32] -/
def an77 : Ann := (.seq .nil (.seq (.seq .nil (.cond (.seq .nil .nil) .nil)) (.seq (.seq .nil (.block (.loop [(5, .sh (.one (.int .i64)))] [0, 1, 1000000] (.seq (.seq .nil (.cond .nil .nil)) (.seq (.block (.seq .nil (.cond (.seq .nil .nil) .nil))) .nil))))) (.seq .nil .nil))))
def S77 (a0 : Option Addr) (n0 c0 : Nat) (a1 : Option Addr) (n1 c1 : Nat) (K : Value → WP) : WP := 
  splitW (((n0 : Nat) : Int) != ((n1 : Nat) : Int)) (K (.bool false)) <|
  loopW (Int × Unit) ((0 : Int), ()) fun (y2 : Int × Unit) (I1 : (Int × Unit) → WP) =>
  splitW (decide (y2.1 < ((n0 : Nat) : Int))) (drewW <|
  guardW (0 ≤ y2.1 ∧ y2.1 < ((n0 : Nat) : Int)) <|
  ptrW a0 fun (p3 : Addr) =>
  ldW (.int .u32) (p3.add (Int.toNat y2.1 * 1)) fun (u4 : Int) =>
  guardW (0 ≤ y2.1 ∧ y2.1 < ((n1 : Nat) : Int)) <|
  ptrW a1 fun (p5 : Addr) =>
  ldW (.int .u32) (p5.add (Int.toNat y2.1 * 1)) fun (u6 : Int) =>
  splitW (u4 != u6) (K (.bool false)) <| I1 ((IntKind.wrap .i64 (y2.1 + (1 : Int))), ())) <| K (.bool true)
theorem eq77 (a0 : Option Addr) (n0 c0 : Nat) (a1 : Option Addr) (n1 c1 : Nat) (K : Value → WP) : bodyW Tryz.prog Tryz.f77 an77 false [(.slice a0 n0 c0), (.slice a1 n1 c1)] K = S77 a0 n0 c0 a1 n1 c1 K := by kernel_rfl
theorem calls77 (a0 : Option Addr) (n0 c0 : Nat) (a1 : Option Addr) (n1 c1 : Nat) {K : Value → WP} {w : World} (h : S77 a0 n0 c0 a1 n1 c1 K w) : Calls Tryz.prog 77 #[(.slice a0 n0 c0), (.slice a1 n1 c1)] w (Ret K) := callsR_of_bodyW mixed Tryz.func77 (of_decide_eq_true (by kernel_rfl)) (by rw [eq77]; exact h)

/-- shadowbook/super.Check$1 -/
def an78 : Ann := (.seq .nil (.seq .nil .nil))
def S78 (x0 : Int) (a1 : Addr) (K : Value → WP) : WP := 
  splitW (decide (x0 ≥ (2 : Int))) (ldW (.int .i64) ((a1.add 1).add 1) fun (u1 : Int) => K (.bool (decide ((IntKind.wrap .u64 x0) < (IntKind.wrap .u64 u1))))) <| K (.bool false)
theorem eq78 (x0 : Int) (a1 : Addr) (K : Value → WP) : bodyW Tryz.prog Tryz.f78 an78 false [(.int .u32 x0), (.pointer (some a1))] K = S78 x0 a1 K := by kernel_rfl
theorem calls78 (x0 : Int) (a1 : Addr) {K : Value → WP} {w : World} (h : S78 x0 a1 K w) : Calls Tryz.prog 78 #[(.int .u32 x0), (.pointer (some a1))] w (Ret K) := callsR_of_bodyW mixed Tryz.func78 (of_decide_eq_true (by kernel_rfl)) (by rw [eq78]; exact h)

/-- slices.Contains[[]uint32,uint32] -/
def an79 : Ann := (.seq .nil (.seq .nil .nil))
def S79 (a0 : Option Addr) (n0 c0 : Nat) (x1 : Int) (K : Value → WP) : WP := 
  callW Tryz.prog 110 [(.slice a0 n0 c0), (.int .u32 x1)] (.one (.one (.int .i64))) fun (u1 : Int) => K (.bool (decide (u1 ≥ (0 : Int))))
theorem eq79 (a0 : Option Addr) (n0 c0 : Nat) (x1 : Int) (K : Value → WP) : bodyW Tryz.prog Tryz.f79 an79 false [(.slice a0 n0 c0), (.int .u32 x1)] K = S79 a0 n0 c0 x1 K := by kernel_rfl
theorem calls79 (a0 : Option Addr) (n0 c0 : Nat) (x1 : Int) {K : Value → WP} {w : World} (h : S79 a0 n0 c0 x1 K w) : Calls Tryz.prog 79 #[(.slice a0 n0 c0), (.int .u32 x1)] w (Ret K) := callsR_of_bodyW mixed Tryz.func79 (of_decide_eq_true (by kernel_rfl)) (by rw [eq79]; exact h)

/-- (*shadowbook/device.Device).there -/
def an80 : Ann := (.seq .nil (.seq .nil .nil))
def S80 (x0 : Option Addr) (x1 : Int) (K : Value → WP) : WP := 
  splitW (decide (x1 ≥ (0 : Int))) (ptrW x0 fun (p1 : Addr) =>
  ldW (.int .i64) (p1.add 1) fun (u2 : Int) => K (.bool (decide (x1 < u2)))) <| K (.bool false)
theorem eq80 (x0 : Option Addr) (x1 : Int) (K : Value → WP) : bodyW Tryz.prog Tryz.f80 an80 false [(.pointer x0), (.int .i64 x1)] K = S80 x0 x1 K := by kernel_rfl
theorem calls80 (x0 : Option Addr) (x1 : Int) {K : Value → WP} {w : World} (h : S80 x0 x1 K w) : Calls Tryz.prog 80 #[(.pointer x0), (.int .i64 x1)] w (Ret K) := callsR_of_bodyW mixed Tryz.func80 (of_decide_eq_true (by kernel_rfl)) (by rw [eq80]; exact h)

/-- (*shadowbook/device.Device).done -/
def an81 : Ann := (.seq .nil (.seq (.seq .nil (.cond (.seq .nil .nil) .nil)) (.seq .nil (.seq .nil (.seq .nil .nil)))))
def S81 (x0 : Option Addr) (K : Value → WP) : WP := 
  ptrW x0 fun (p1 : Addr) =>
  ldW (.int .i64) (p1.add 5) fun (u2 : Int) =>
  splitW (u2 == (0 : Int)) (K (.bool false)) <|
  ptrW x0 fun (p3 : Addr) =>
  ldW (.int .i64) (p3.add 5) fun (u4 : Int) =>
  ptrW x0 fun (p5 : Addr) =>
  stW (p5.add 5) (.int .i64 (if (IntKind.wrap .i64 (u4 - (1 : Int))) > (-1 : Int) then (IntKind.wrap .i64 (u4 - (1 : Int))) else (-1 : Int))) <|
  ptrW x0 fun (p6 : Addr) =>
  ldW (.int .i64) (p6.add 4) fun (u7 : Int) =>
  ptrW x0 fun (p8 : Addr) =>
  stW (p8.add 4) (.int .i64 (IntKind.wrap .i64 (u7 + (1 : Int)))) <| K (.bool true)
theorem eq81 (x0 : Option Addr) (K : Value → WP) : bodyW Tryz.prog Tryz.f81 an81 false [(.pointer x0)] K = S81 x0 K := by kernel_rfl
theorem calls81 (x0 : Option Addr) {K : Value → WP} {w : World} (h : S81 x0 K w) : Calls Tryz.prog 81 #[(.pointer x0)] w (Ret K) := callsR_of_bodyW mixed Tryz.func81 (of_decide_eq_true (by kernel_rfl)) (by rw [eq81]; exact h)

/-- (*shadowbook/counts.Counts).Pages -/
def an82 : Ann := (.seq .nil (.seq (.seq .nil (.cond (.seq .nil .nil) .nil)) (.seq (.seq .nil (.block (.loop [(21, .sh (.one .slc))] [] (.seq .nil (.block (.seq .nil (.seq (.seq .nil (.block (.loop [(4, .sh (.one .slc)), (24, .sh (.one (.int .i64)))] [2, 22, 23, 1000000] (.seq .nil (.seq (.cond .nil .nil) (.seq (.block (.seq .nil .nil)) .nil)))))) .nil))))))) (.seq .nil .nil))))
def S82 (x0 : Option Addr) (K : Value → WP) : WP := 
  newW (.cells #[(.slice none 0 0)] 88) fun (r1 : Nat) =>
  splitW (Option.isNone x0) (stW (⟨r1, 0, none⟩ : Addr) (.slice none 0 0) <|
  leaveW Tryz.prog [] <|
  ldW .slc (⟨r1, 0, none⟩ : Addr) fun (u2 : (Option Addr × Nat × Nat)) => K (.slice u2.1 u2.2.1 u2.2.2)) <|
  drewW <|
  ptrW x0 fun (p3 : Addr) =>
  ldW .slc (p3.add 2) fun (u4 : (Option Addr × Nat × Nat)) =>
  ptrW x0 fun (p5 : Addr) =>
  ldW (.int .i64) p5 fun (u6 : Int) =>
  callW Tryz.prog 64 [(.int .i64 u6)] (.one (.one (.int .i64))) fun (u7 : Int) =>
  heldW [[((p3.add 2), (.slice u4.1 u4.2.1 u4.2.2))]] <|
  callW Tryz.prog 111 [(.slice u4.1 u4.2.1 u4.2.2), (.int .i64 (IntKind.wrap .i64 (Int.tdiv u7 (2 : Int))))] (.one (.one .any)) fun (u8 : Value) =>
  rangeW Tryz.prog u8 ((Option Addr × Nat × Nat) × Unit) (fun (t9 : (Option Addr × Nat × Nat) × Unit) => [(.slice t9.1.1 t9.1.2.1 t9.1.2.2)]) (fun (t9 : (Option Addr × Nat × Nat) × Unit) (B10 : WP → WP) (N11 : WP) (Q12 : Code → WP) => B10 (loopW ((Option Addr × Nat × Nat) × Int × Unit) ((none, 0, 0), (0 : Int), ()) fun (y16 : (Option Addr × Nat × Nat) × Int × Unit) (I15 : ((Option Addr × Nat × Nat) × Int × Unit) → WP) =>
  splitW (decide (y16.2.1 < ((t9.1.2.1 : Nat) : Int))) (guardW (0 ≤ y16.2.1 ∧ y16.2.1 < ((t9.1.2.1 : Nat) : Int)) <|
  ptrW t9.1.1 fun (p17 : Addr) =>
  ldW (.int .u16) (p17.add (Int.toNat y16.2.1 * 1)) fun (u18 : Int) =>
  callW Tryz.prog 58 [(.slice y16.1.1 y16.1.2.1 y16.1.2.2), (.int .u64 (IntKind.wrap .u64 u18)), (.int .i64 (2 : Int))] (.one (.one .slc)) fun (u19 : (Option Addr × Nat × Nat)) => I15 ((u19.1, u19.2.1, u19.2.2), (IntKind.wrap .i64 (y16.2.1 + (1 : Int))), ())) <|
  ldW .slc (⟨r1, 0, none⟩ : Addr) fun (u20 : (Option Addr × Nat × Nat)) =>
  runW Tryz.prog (Go.convert 62 9 (.slice y16.1.1 y16.1.2.1 y16.1.2.2)) .str fun (u21 : ByteArray) =>
  newW (.cells #[(.string u21)] 9) fun (r22 : Nat) =>
  runW Tryz.prog (Builtin.append_ #[88, 88] 88 #[(.slice u20.1 u20.2.1 u20.2.2), (.slice (some (⟨r22, 0, none⟩ : Addr)) 1 1)]) .slc fun (u23 : (Option Addr × Nat × Nat)) =>
  stW (⟨r1, 0, none⟩ : Addr) (.slice u23.1 u23.2.1 u23.2.2) <| N11)) fun (r13 : Nat) (p14 : Option Code) =>
  jumpK (ldW .slc (⟨r1, 0, none⟩ : Addr) fun (u24 : (Option Addr × Nat × Nat)) =>
  stW (⟨r1, 0, none⟩ : Addr) (.slice u24.1 u24.2.1 u24.2.2) <|
  leaveW Tryz.prog (⟨.collected r13, #[]⟩ :: []) <|
  ldW .slc (⟨r1, 0, none⟩ : Addr) fun (u25 : (Option Addr × Nat × Nat)) => K (.slice u25.1 u25.2.1 u25.2.2)) (leaveW Tryz.prog (⟨.collected r13, #[]⟩ :: []) <|
  ldW .slc (⟨r1, 0, none⟩ : Addr) fun (u26 : (Option Addr × Nat × Nat)) => K (.slice u26.1 u26.2.1 u26.2.2)) [] p14
theorem eq82 (x0 : Option Addr) (K : Value → WP) : bodyW Tryz.prog Tryz.f82 an82 true [(.pointer x0)] K = S82 x0 K := by kernel_rfl
theorem calls82 (x0 : Option Addr) {K : Value → WP} {w : World} (h : S82 x0 K w) : Calls Tryz.prog 82 #[(.pointer x0)] w (Ret K) := callsR_of_bodyW mixed Tryz.func82 (of_decide_eq_true (by kernel_rfl)) (by rw [eq82]; exact h)

/-- (*shadowbook/device.Device).Flush -/
def an83 : Ann := (.seq .nil (.seq (.block (.seq .nil (.cond (.seq .nil .nil) (.seq .nil (.cond (.seq .nil .nil) .nil))))) (.seq (.seq .nil (.block (.loop [(17, .sh (.one (.int .i64)))] [0, 15, 16, 1000000] (.seq .nil (.seq (.cond .nil .nil) (.seq (.block (.seq .nil .nil)) .nil)))))) (.seq .nil (.seq .nil .nil)))))
def S83 (x0 : Option Addr) (K : Value → WP) : WP := 
  splitW (Option.isNone x0) (K (.int .i64 (1 : Int))) <|
  callW Tryz.prog 81 [(.pointer x0)] (.one (.one .bool)) fun (u1 : Bool) =>
  splitW (!u1) (K (.int .i64 (8 : Int))) <|
  ptrW x0 fun (p2 : Addr) =>
  ldW .slc (p2.add 3) fun (u3 : (Option Addr × Nat × Nat)) =>
  loopW (Int × Unit) ((0 : Int), ()) fun (y5 : Int × Unit) (I4 : (Int × Unit) → WP) =>
  splitW (decide (y5.1 < ((u3.2.1 : Nat) : Int))) (guardW (0 ≤ y5.1 ∧ y5.1 < ((u3.2.1 : Nat) : Int)) <|
  ptrW u3.1 fun (p6 : Addr) =>
  ldAW [(.int .i64), .str] (p6.add (Int.toNat y5.1 * 2)) fun (u7 : (Int × ByteArray × Unit)) =>
  newW (.cells #[(.int .i64 (0 : Int)), (.string ByteArray.empty)] 120) fun (r8 : Nat) =>
  guardW ((#[(.int .i64 u7.1), (.string u7.2.1)] : Array Value).size = 2) <|
  stAW (⟨r8, 0, none⟩ : Addr) [(.int .i64 u7.1), (.string u7.2.1)] <|
  drewW <|
  ptrW x0 fun (p9 : Addr) =>
  ldW .slc (p9.add 2) fun (u10 : (Option Addr × Nat × Nat)) =>
  ldW (.int .i64) (⟨r8, 0, none⟩ : Addr) fun (u11 : Int) =>
  ldW .str ((⟨r8, 0, none⟩ : Addr).add 1) fun (u12 : ByteArray) =>
  guardW (0 ≤ u11 ∧ u11 < ((u10.2.1 : Nat) : Int)) <|
  ptrW u10.1 fun (p13 : Addr) =>
  stW (p13.add (Int.toNat u11 * 1)) (.string u12) <| I4 ((IntKind.wrap .i64 (y5.1 + (1 : Int))), ())) <|
  ptrW x0 fun (p14 : Addr) =>
  stW (p14.add 3) (.slice none 0 0) <| K (.int .i64 (0 : Int))
theorem eq83 (x0 : Option Addr) (K : Value → WP) : bodyW Tryz.prog Tryz.f83 an83 false [(.pointer x0)] K = S83 x0 K := by kernel_rfl
theorem calls83 (x0 : Option Addr) {K : Value → WP} {w : World} (h : S83 x0 K w) : Calls Tryz.prog 83 #[(.pointer x0)] w (Ret K) := callsR_of_bodyW mixed Tryz.func83 (of_decide_eq_true (by kernel_rfl)) (by rw [eq83]; exact h)

/-- shadowbook/super.Put -/
def an84 : Ann := (.seq .nil (.seq (.seq .nil (.seq .nil (.cond (.seq .nil .nil) .nil))) (.seq .nil (.seq (.seq .nil (.block (.loop [(5, .sh (.one .slc)), (28, .sh (.one (.int .i64)))] [1, 26, 27, 1000000] (.seq .nil (.seq (.cond .nil .nil) (.seq (.block (.seq .nil .nil)) .nil)))))) (.seq .nil (.seq (.seq .nil (.block (.loop [(5, .sh (.one .slc)), (45, .sh (.one (.int .i64)))] [1, 43, 44, 1000000] (.seq .nil (.seq (.cond .nil .nil) (.seq (.block (.seq .nil .nil)) .nil)))))) (.seq .nil .nil)))))))
def S84 (x0_0 : Int) (x0_1 : Int) (x0_2 : Int) (x0_3 : Int) (a0_4 : Option Addr) (n0_4 c0_4 : Nat) (K : Value → WP) : WP := 
  newW (.cells #[(.int .u64 x0_0), (.int .i64 x0_1), (.int .i64 x0_2), (.int .u32 x0_3), (.slice a0_4 n0_4 c0_4)] 78) fun (r1 : Nat) =>
  ldAW [(.int .u64), (.int .i64), (.int .i64), (.int .u32), .slc] (⟨r1, 0, none⟩ : Addr) fun (u2 : (Int × Int × Int × Int × (Option Addr × Nat × Nat) × Unit)) =>
  callW Tryz.prog 41 [(.agg #[(.int .u64 u2.1), (.int .i64 u2.2.1), (.int .i64 u2.2.2.1), (.int .u32 u2.2.2.2.1), (.slice u2.2.2.2.2.1.1 u2.2.2.2.2.1.2.1 u2.2.2.2.2.1.2.2)])] (.one (.one (.int .i64))) fun (u3 : Int) =>
  splitW (u3 != (0 : Int)) (K (.tuple #[(.string (ByteArray.mk #[])), (.int .i64 u3)])) <|
  ldW (.int .i64) ((⟨r1, 0, none⟩ : Addr).add 1) fun (u4 : Int) =>
  ldW (.int .i64) (((⟨r1, 0, none⟩ : Addr).add 1).add 1) fun (u5 : Int) =>
  ldW (.int .u32) ((⟨r1, 0, none⟩ : Addr).add 3) fun (u6 : Int) =>
  newW (.cells #[(.int .u64 (IntKind.wrap .u64 u4)), (.int .u64 (IntKind.wrap .u64 u5)), (.int .u64 (IntKind.wrap .u64 u6))] 50) fun (r7 : Nat) =>
  loopW ((Option Addr × Nat × Nat) × Int × Unit) ((none, 0, 0), (0 : Int), ()) fun (y9 : (Option Addr × Nat × Nat) × Int × Unit) (I8 : ((Option Addr × Nat × Nat) × Int × Unit) → WP) =>
  splitW (decide (y9.2.1 < ((3 : Nat) : Int))) (guardW (0 ≤ y9.2.1 ∧ y9.2.1 < ((3 : Nat) : Int)) <|
  ptrW (some (⟨r7, 0, none⟩ : Addr)) fun (p10 : Addr) =>
  ldW (.int .u64) (p10.add (Int.toNat y9.2.1 * 1)) fun (u11 : Int) =>
  callW Tryz.prog 58 [(.slice y9.1.1 y9.1.2.1 y9.1.2.2), (.int .u64 u11), (.int .i64 (4 : Int))] (.one (.one .slc)) fun (u12 : (Option Addr × Nat × Nat)) => I8 ((u12.1, u12.2.1, u12.2.2), (IntKind.wrap .i64 (y9.2.1 + (1 : Int))), ())) <|
  ldW .slc ((⟨r1, 0, none⟩ : Addr).add 4) fun (u13 : (Option Addr × Nat × Nat)) =>
  callW Tryz.prog 58 [(.slice y9.1.1 y9.1.2.1 y9.1.2.2), (.int .u64 (IntKind.wrap .u64 ((u13.2.1 : Nat) : Int))), (.int .i64 (2 : Int))] (.one (.one .slc)) fun (u14 : (Option Addr × Nat × Nat)) =>
  ldW .slc ((⟨r1, 0, none⟩ : Addr).add 4) fun (u15 : (Option Addr × Nat × Nat)) =>
  loopW ((Option Addr × Nat × Nat) × Int × Unit) ((u14.1, u14.2.1, u14.2.2), (0 : Int), ()) fun (y17 : (Option Addr × Nat × Nat) × Int × Unit) (I16 : ((Option Addr × Nat × Nat) × Int × Unit) → WP) =>
  splitW (decide (y17.2.1 < ((u15.2.1 : Nat) : Int))) (guardW (0 ≤ y17.2.1 ∧ y17.2.1 < ((u15.2.1 : Nat) : Int)) <|
  ptrW u15.1 fun (p18 : Addr) =>
  ldW (.int .u32) (p18.add (Int.toNat y17.2.1 * 1)) fun (u19 : Int) =>
  callW Tryz.prog 58 [(.slice y17.1.1 y17.1.2.1 y17.1.2.2), (.int .u64 (IntKind.wrap .u64 u19)), (.int .i64 (4 : Int))] (.one (.one .slc)) fun (u20 : (Option Addr × Nat × Nat)) => I16 ((u20.1, u20.2.1, u20.2.2), (IntKind.wrap .i64 (y17.2.1 + (1 : Int))), ())) <|
  ldW (.int .i64) ((⟨r1, 0, none⟩ : Addr).add 1) fun (u21 : Int) =>
  ldW (.int .u64) (⟨r1, 0, none⟩ : Addr) fun (u22 : Int) =>
  runW Tryz.prog (Go.convert 62 9 (.slice y17.1.1 y17.1.2.1 y17.1.2.2)) .str fun (u23 : ByteArray) =>
  callW Tryz.prog 101 [(.int .i64 u21), (.agg #[(.int .u8 (1 : Int)), (.int .u64 u22), (.string u23)])] (.many [(.one .str), (.one (.int .i64))]) fun (u24 : ByteArray × Int × Unit) => K (.tuple #[(.string u24.1), (.int .i64 u24.2.1)])
theorem eq84 (x0_0 : Int) (x0_1 : Int) (x0_2 : Int) (x0_3 : Int) (a0_4 : Option Addr) (n0_4 c0_4 : Nat) (K : Value → WP) : bodyW Tryz.prog Tryz.f84 an84 false [(.agg #[(.int .u64 x0_0), (.int .i64 x0_1), (.int .i64 x0_2), (.int .u32 x0_3), (.slice a0_4 n0_4 c0_4)])] K = S84 x0_0 x0_1 x0_2 x0_3 a0_4 n0_4 c0_4 K := by kernel_rfl
theorem calls84 (x0_0 : Int) (x0_1 : Int) (x0_2 : Int) (x0_3 : Int) (a0_4 : Option Addr) (n0_4 c0_4 : Nat) {K : Value → WP} {w : World} (h : S84 x0_0 x0_1 x0_2 x0_3 a0_4 n0_4 c0_4 K w) : Calls Tryz.prog 84 #[(.agg #[(.int .u64 x0_0), (.int .i64 x0_1), (.int .i64 x0_2), (.int .u32 x0_3), (.slice a0_4 n0_4 c0_4)])] w (Ret K) := callsR_of_bodyW mixed Tryz.func84 (of_decide_eq_true (by kernel_rfl)) (by rw [eq84]; exact h)

/-- slices.Clone[[]uint16,uint16] -/
def an85 : Ann := (.seq .nil (.seq (.seq .nil (.cond (.seq .nil .nil) .nil)) (.seq .nil .nil)))
def S85 (a0 : Option Addr) (n0 c0 : Nat) (K : Value → WP) : WP := 
  splitW (Option.isNone a0) (K (.slice none 0 0)) <|
  newW (.cells #[] 129) fun (r1 : Nat) =>
  runW Tryz.prog (Builtin.append_ #[126, 126] 126 #[(.slice (some (⟨r1, 0, none⟩ : Addr)) 0 0), (.slice a0 n0 c0)]) .slc fun (u2 : (Option Addr × Nat × Nat)) => K (.slice u2.1 u2.2.1 u2.2.2)
theorem eq85 (a0 : Option Addr) (n0 c0 : Nat) (K : Value → WP) : bodyW Tryz.prog Tryz.f85 an85 false [(.slice a0 n0 c0)] K = S85 a0 n0 c0 K := by kernel_rfl
theorem calls85 (a0 : Option Addr) (n0 c0 : Nat) {K : Value → WP} {w : World} (h : S85 a0 n0 c0 K w) : Calls Tryz.prog 85 #[(.slice a0 n0 c0)] w (Ret K) := callsR_of_bodyW mixed Tryz.func85 (of_decide_eq_true (by kernel_rfl)) (by rw [eq85]; exact h)

/-- (*shadowbook/device.Device).latest -/
def an92 : Ann := (.seq .nil (.seq .nil .nil))
def S92 (x0 : Option Addr) (K : Value → WP) : WP := 
  ptrW x0 fun (p1 : Addr) =>
  ldW .slc (p1.add 3) fun (u2 : (Option Addr × Nat × Nat)) =>
  callW Tryz.prog 117 [(.slice u2.1 u2.2.1 u2.2.2)] (.one (.one .any)) fun (u3 : Value) => K u3
theorem eq92 (x0 : Option Addr) (K : Value → WP) : bodyW Tryz.prog Tryz.f92 an92 false [(.pointer x0)] K = S92 x0 K := by kernel_rfl
theorem calls92 (x0 : Option Addr) {K : Value → WP} {w : World} (h : S92 x0 K w) : Calls Tryz.prog 92 #[(.pointer x0)] w (Ret K) := callsR_of_bodyW mixed Tryz.func92 (of_decide_eq_true (by kernel_rfl)) (by rw [eq92]; exact h)

/-- shadowbook/super.Get -/
def an93 : Ann := (.seq .nil (.seq .nil (.seq (.seq .nil (.cond (.seq .nil .nil) .nil)) (.seq .nil (.seq .nil (.seq (.seq .nil (.block (.loop [(27, .sh (.one (.int .i64)))] [0, 2, 4, 5, 6, 1000000] (.seq .nil (.seq (.cond .nil .nil) (.seq (.block (.seq .nil .nil)) .nil)))))) (.seq .nil (.seq .nil (.seq (.seq .nil (.block (.loop [(57, .sh (.one (.int .u64)))] [0, 2, 5, 56, 1000000] (.seq .nil (.seq (.cond .nil .nil) (.seq (.block (.seq .nil (.seq (.seq .nil (.cond (.seq .nil .nil) .nil)) .nil))) .nil)))))) (.seq (.seq .nil (.seq .nil (.cond (.seq .nil .nil) .nil))) (.seq .nil .nil)))))))))))
def S93 (x0 : ByteArray) (K : Value → WP) : WP := 
  newW (.cells #[(.int .u64 (0 : Int)), (.int .i64 (0 : Int)), (.int .i64 (0 : Int)), (.int .u32 (0 : Int)), (.slice none 0 0)] 78) fun (r1 : Nat) =>
  callW Tryz.prog 50 [(.string x0), (.int .u8 (1 : Int))] (.many [(.agg [(.int .u8), (.int .u64), .str]), (.one (.int .i64))]) fun (u2 : (Int × Int × ByteArray × Unit) × Int × Unit) =>
  newW (.cells #[(.int .u8 (0 : Int)), (.int .u64 (0 : Int)), (.string ByteArray.empty)] 97) fun (r3 : Nat) =>
  guardW ((#[(.int .u8 u2.1.1), (.int .u64 u2.1.2.1), (.string u2.1.2.2.1)] : Array Value).size = 3) <|
  stAW (⟨r3, 0, none⟩ : Addr) [(.int .u8 u2.1.1), (.int .u64 u2.1.2.1), (.string u2.1.2.2.1)] <|
  splitW (u2.2.1 != (0 : Int)) (ldAW [(.int .u64), (.int .i64), (.int .i64), (.int .u32), .slc] (⟨r1, 0, none⟩ : Addr) fun (u4 : (Int × Int × Int × Int × (Option Addr × Nat × Nat) × Unit)) =>
  guardW ((#[(.int .u64 u4.1), (.int .i64 u4.2.1), (.int .i64 u4.2.2.1), (.int .u32 u4.2.2.2.1), (.slice u4.2.2.2.2.1.1 u4.2.2.2.2.1.2.1 u4.2.2.2.2.1.2.2)] : Array Value).size = 5) <|
  stAW (⟨r1, 0, none⟩ : Addr) [(.int .u64 u4.1), (.int .i64 u4.2.1), (.int .i64 u4.2.2.1), (.int .u32 u4.2.2.2.1), (.slice u4.2.2.2.2.1.1 u4.2.2.2.2.1.2.1 u4.2.2.2.2.1.2.2)] <|
  ldAW [(.int .u64), (.int .i64), (.int .i64), (.int .u32), .slc] (⟨r1, 0, none⟩ : Addr) fun (u5 : (Int × Int × Int × Int × (Option Addr × Nat × Nat) × Unit)) => K (.tuple #[(.agg #[(.int .u64 u5.1), (.int .i64 u5.2.1), (.int .i64 u5.2.2.1), (.int .u32 u5.2.2.2.1), (.slice u5.2.2.2.2.1.1 u5.2.2.2.2.1.2.1 u5.2.2.2.2.1.2.2)]), (.int .i64 u2.2.1)])) <|
  ldW .str ((⟨r3, 0, none⟩ : Addr).add 2) fun (u6 : ByteArray) =>
  runW Tryz.prog (Go.convert 9 62 (.string u6)) .slc fun (u7 : (Option Addr × Nat × Nat)) =>
  callW Tryz.prog 104 [(.slice u7.1 u7.2.1 u7.2.2)] (.one (.one .ptr)) fun (u8 : Option Addr) =>
  newW (.cells #[(.int .u64 (0 : Int)), (.int .u64 (0 : Int)), (.int .u64 (0 : Int))] 183) fun (r9 : Nat) =>
  loopW (Int × Unit) ((0 : Int), ()) fun (y11 : Int × Unit) (I10 : (Int × Unit) → WP) =>
  splitW (decide (y11.1 < (3 : Int))) (callW Tryz.prog 105 [(.pointer u8), (.int .i64 (4 : Int))] (.many [(.one (.int .u64)), (.one (.int .i64))]) fun (u12 : Int × Int × Unit) =>
  guardW (0 ≤ y11.1 ∧ y11.1 < ((3 : Nat) : Int)) <|
  stW ((⟨r9, 0, none⟩ : Addr).add (Int.toNat y11.1 * 1)) (.int .u64 u12.1) <| I10 ((IntKind.wrap .i64 (y11.1 + (1 : Int))), ())) <|
  callW Tryz.prog 105 [(.pointer u8), (.int .i64 (2 : Int))] (.many [(.one (.int .u64)), (.one (.int .i64))]) fun (u13 : Int × Int × Unit) =>
  ldW (.int .u64) ((⟨r3, 0, none⟩ : Addr).add 1) fun (u14 : Int) =>
  guardW (0 ≤ (0 : Int) ∧ (0 : Int) < ((3 : Nat) : Int)) <|
  ldW (.int .u64) ((⟨r9, 0, none⟩ : Addr).add (Int.toNat (0 : Int) * 1)) fun (u15 : Int) =>
  guardW (0 ≤ (1 : Int) ∧ (1 : Int) < ((3 : Nat) : Int)) <|
  ldW (.int .u64) ((⟨r9, 0, none⟩ : Addr).add (Int.toNat (1 : Int) * 1)) fun (u16 : Int) =>
  guardW (0 ≤ (2 : Int) ∧ (2 : Int) < ((3 : Nat) : Int)) <|
  ldW (.int .u64) ((⟨r9, 0, none⟩ : Addr).add (Int.toNat (2 : Int) * 1)) fun (u17 : Int) =>
  guardW ((#[(.int .u64 u14), (.int .i64 (IntKind.wrap .i64 u15)), (.int .i64 (IntKind.wrap .i64 u16)), (.int .u32 (IntKind.wrap .u32 u17)), (.slice none 0 0)] : Array Value).size = 5) <|
  stAW (⟨r1, 0, none⟩ : Addr) [(.int .u64 u14), (.int .i64 (IntKind.wrap .i64 u15)), (.int .i64 (IntKind.wrap .i64 u16)), (.int .u32 (IntKind.wrap .u32 u17)), (.slice none 0 0)] <|
  loopW (Int × Unit) ((0 : Int), ()) fun (y19 : Int × Unit) (I18 : (Int × Unit) → WP) =>
  splitW (decide (y19.1 < u13.1)) (callW Tryz.prog 105 [(.pointer u8), (.int .i64 (4 : Int))] (.many [(.one (.int .u64)), (.one (.int .i64))]) fun (u20 : Int × Int × Unit) =>
  splitW (u20.2.1 != (0 : Int)) (guardW ((#[(.int .u64 (0 : Int)), (.int .i64 (0 : Int)), (.int .i64 (0 : Int)), (.int .u32 (0 : Int)), (.slice none 0 0)] : Array Value).size = 5) <|
  stAW (⟨r1, 0, none⟩ : Addr) [(.int .u64 (0 : Int)), (.int .i64 (0 : Int)), (.int .i64 (0 : Int)), (.int .u32 (0 : Int)), (.slice none 0 0)] <|
  ldAW [(.int .u64), (.int .i64), (.int .i64), (.int .u32), .slc] (⟨r1, 0, none⟩ : Addr) fun (u21 : (Int × Int × Int × Int × (Option Addr × Nat × Nat) × Unit)) => K (.tuple #[(.agg #[(.int .u64 u21.1), (.int .i64 u21.2.1), (.int .i64 u21.2.2.1), (.int .u32 u21.2.2.2.1), (.slice u21.2.2.2.2.1.1 u21.2.2.2.2.1.2.1 u21.2.2.2.2.1.2.2)]), (.int .i64 (4 : Int))])) <|
  ldW .slc ((⟨r1, 0, none⟩ : Addr).add 4) fun (u22 : (Option Addr × Nat × Nat)) =>
  newW (.cells #[(.int .u32 (IntKind.wrap .u32 u20.1))] 35) fun (r23 : Nat) =>
  runW Tryz.prog (Builtin.append_ #[38, 38] 38 #[(.slice u22.1 u22.2.1 u22.2.2), (.slice (some (⟨r23, 0, none⟩ : Addr)) 1 1)]) .slc fun (u24 : (Option Addr × Nat × Nat)) =>
  stW ((⟨r1, 0, none⟩ : Addr).add 4) (.slice u24.1 u24.2.1 u24.2.2) <| I18 ((IntKind.wrap .u64 (y19.1 + (1 : Int))), ())) <|
  ldAW [(.int .u64), (.int .i64), (.int .i64), (.int .u32), .slc] (⟨r1, 0, none⟩ : Addr) fun (u25 : (Int × Int × Int × Int × (Option Addr × Nat × Nat) × Unit)) =>
  callW Tryz.prog 84 [(.agg #[(.int .u64 u25.1), (.int .i64 u25.2.1), (.int .i64 u25.2.2.1), (.int .u32 u25.2.2.2.1), (.slice u25.2.2.2.2.1.1 u25.2.2.2.2.1.2.1 u25.2.2.2.2.1.2.2)])] (.many [(.one .str), (.one (.int .i64))]) fun (u26 : ByteArray × Int × Unit) =>
  splitW (u26.2.1 != (0 : Int)) (guardW ((#[(.int .u64 (0 : Int)), (.int .i64 (0 : Int)), (.int .i64 (0 : Int)), (.int .u32 (0 : Int)), (.slice none 0 0)] : Array Value).size = 5) <|
  stAW (⟨r1, 0, none⟩ : Addr) [(.int .u64 (0 : Int)), (.int .i64 (0 : Int)), (.int .i64 (0 : Int)), (.int .u32 (0 : Int)), (.slice none 0 0)] <|
  ldAW [(.int .u64), (.int .i64), (.int .i64), (.int .u32), .slc] (⟨r1, 0, none⟩ : Addr) fun (u27 : (Int × Int × Int × Int × (Option Addr × Nat × Nat) × Unit)) => K (.tuple #[(.agg #[(.int .u64 u27.1), (.int .i64 u27.2.1), (.int .i64 u27.2.2.1), (.int .u32 u27.2.2.2.1), (.slice u27.2.2.2.2.1.1 u27.2.2.2.2.1.2.1 u27.2.2.2.2.1.2.2)]), (.int .i64 (4 : Int))])) <|
  splitW (!(u26.1.toList == x0.toList)) (guardW ((#[(.int .u64 (0 : Int)), (.int .i64 (0 : Int)), (.int .i64 (0 : Int)), (.int .u32 (0 : Int)), (.slice none 0 0)] : Array Value).size = 5) <|
  stAW (⟨r1, 0, none⟩ : Addr) [(.int .u64 (0 : Int)), (.int .i64 (0 : Int)), (.int .i64 (0 : Int)), (.int .u32 (0 : Int)), (.slice none 0 0)] <|
  ldAW [(.int .u64), (.int .i64), (.int .i64), (.int .u32), .slc] (⟨r1, 0, none⟩ : Addr) fun (u28 : (Int × Int × Int × Int × (Option Addr × Nat × Nat) × Unit)) => K (.tuple #[(.agg #[(.int .u64 u28.1), (.int .i64 u28.2.1), (.int .i64 u28.2.2.1), (.int .u32 u28.2.2.2.1), (.slice u28.2.2.2.2.1.1 u28.2.2.2.2.1.2.1 u28.2.2.2.2.1.2.2)]), (.int .i64 (4 : Int))])) <|
  ldAW [(.int .u64), (.int .i64), (.int .i64), (.int .u32), .slc] (⟨r1, 0, none⟩ : Addr) fun (u29 : (Int × Int × Int × Int × (Option Addr × Nat × Nat) × Unit)) =>
  guardW ((#[(.int .u64 u29.1), (.int .i64 u29.2.1), (.int .i64 u29.2.2.1), (.int .u32 u29.2.2.2.1), (.slice u29.2.2.2.2.1.1 u29.2.2.2.2.1.2.1 u29.2.2.2.2.1.2.2)] : Array Value).size = 5) <|
  stAW (⟨r1, 0, none⟩ : Addr) [(.int .u64 u29.1), (.int .i64 u29.2.1), (.int .i64 u29.2.2.1), (.int .u32 u29.2.2.2.1), (.slice u29.2.2.2.2.1.1 u29.2.2.2.2.1.2.1 u29.2.2.2.2.1.2.2)] <|
  ldAW [(.int .u64), (.int .i64), (.int .i64), (.int .u32), .slc] (⟨r1, 0, none⟩ : Addr) fun (u30 : (Int × Int × Int × Int × (Option Addr × Nat × Nat) × Unit)) => K (.tuple #[(.agg #[(.int .u64 u30.1), (.int .i64 u30.2.1), (.int .i64 u30.2.2.1), (.int .u32 u30.2.2.2.1), (.slice u30.2.2.2.2.1.1 u30.2.2.2.2.1.2.1 u30.2.2.2.2.1.2.2)]), (.int .i64 (0 : Int))])
theorem eq93 (x0 : ByteArray) (K : Value → WP) : bodyW Tryz.prog Tryz.f93 an93 false [(.string x0)] K = S93 x0 K := by kernel_rfl
theorem calls93 (x0 : ByteArray) {K : Value → WP} {w : World} (h : S93 x0 K w) : Calls Tryz.prog 93 #[(.string x0)] w (Ret K) := callsR_of_bodyW mixed Tryz.func93 (of_decide_eq_true (by kernel_rfl)) (by rw [eq93]; exact h)

/-- shadowbook/frame.Get -/
def an94 : Ann := (.seq .nil (.seq .nil (.seq (.seq .nil (.cond (.seq .nil .nil) .nil)) (.seq .nil (.seq .nil (.seq (.seq .nil (.cond (.seq .nil .nil) .nil)) (.seq .nil (.seq (.seq .nil (.cond (.seq .nil .nil) .nil)) (.seq .nil (.seq (.seq .nil (.seq .nil (.cond (.seq .nil .nil) .nil))) (.seq .nil .nil)))))))))))
def S94 (x0 : ByteArray) (K : Value → WP) : WP := 
  newW (.cells #[(.int .u8 (0 : Int)), (.int .u64 (0 : Int)), (.string ByteArray.empty)] 97) fun (r1 : Nat) =>
  callW Tryz.prog 64 [(.int .i64 ((x0.size : Nat) : Int))] (.one (.one (.int .i64))) fun (u2 : Int) =>
  splitW (u2 == (0 : Int)) (ldAW [(.int .u8), (.int .u64), .str] (⟨r1, 0, none⟩ : Addr) fun (u3 : (Int × Int × ByteArray × Unit)) =>
  guardW ((#[(.int .u8 u3.1), (.int .u64 u3.2.1), (.string u3.2.2.1)] : Array Value).size = 3) <|
  stAW (⟨r1, 0, none⟩ : Addr) [(.int .u8 u3.1), (.int .u64 u3.2.1), (.string u3.2.2.1)] <|
  ldAW [(.int .u8), (.int .u64), .str] (⟨r1, 0, none⟩ : Addr) fun (u4 : (Int × Int × ByteArray × Unit)) => K (.tuple #[(.agg #[(.int .u8 u4.1), (.int .u64 u4.2.1), (.string u4.2.2.1)]), (.int .i64 (2 : Int))])) <|
  runW Tryz.prog (Go.convert 9 62 (.string x0)) .slc fun (u5 : (Option Addr × Nat × Nat)) =>
  drewW <|
  guardW (0 ≤ (IntKind.wrap .i64 (((u5.2.1 : Nat) : Int) - (4 : Int))) ∧ (IntKind.wrap .i64 (((u5.2.1 : Nat) : Int) - (4 : Int))) ≤ ((u5.2.2 : Nat) : Int)) <|
  guardW (0 ≤ (IntKind.wrap .i64 (((u5.2.1 : Nat) : Int) - (4 : Int))) ∧ (IntKind.wrap .i64 (((u5.2.1 : Nat) : Int) - (4 : Int))) ≤ ((u5.2.1 : Nat) : Int)) <|
  callW Tryz.prog 118 [(.slice (cutAddr u5.1 0 u5.2.2 1) (Int.toNat (IntKind.wrap .i64 (((u5.2.1 : Nat) : Int) - (4 : Int)))) u5.2.2)] (.one (.one (.int .u32))) fun (u6 : Int) =>
  callW Tryz.prog 98 [(.slice (cutAddr u5.1 (Int.toNat (IntKind.wrap .i64 (((u5.2.1 : Nat) : Int) - (4 : Int)))) u5.2.2 1) (u5.2.1 - (Int.toNat (IntKind.wrap .i64 (((u5.2.1 : Nat) : Int) - (4 : Int))))) (u5.2.2 - (Int.toNat (IntKind.wrap .i64 (((u5.2.1 : Nat) : Int) - (4 : Int))))))] (.one (.one (.int .u64))) fun (u7 : Int) =>
  splitW ((IntKind.wrap .u64 u6) != u7) (ldAW [(.int .u8), (.int .u64), .str] (⟨r1, 0, none⟩ : Addr) fun (u8 : (Int × Int × ByteArray × Unit)) =>
  guardW ((#[(.int .u8 u8.1), (.int .u64 u8.2.1), (.string u8.2.2.1)] : Array Value).size = 3) <|
  stAW (⟨r1, 0, none⟩ : Addr) [(.int .u8 u8.1), (.int .u64 u8.2.1), (.string u8.2.2.1)] <|
  ldAW [(.int .u8), (.int .u64), .str] (⟨r1, 0, none⟩ : Addr) fun (u9 : (Int × Int × ByteArray × Unit)) => K (.tuple #[(.agg #[(.int .u8 u9.1), (.int .u64 u9.2.1), (.string u9.2.2.1)]), (.int .i64 (10 : Int))])) <|
  guardW (0 ≤ (2 : Int) ∧ (2 : Int) ≤ (4 : Int) ∧ (4 : Int) ≤ ((u5.2.2 : Nat) : Int)) <|
  callW Tryz.prog 98 [(.slice (cutAddr u5.1 (Int.toNat (2 : Int)) u5.2.2 1) ((Int.toNat (4 : Int)) - (Int.toNat (2 : Int))) (u5.2.2 - (Int.toNat (2 : Int))))] (.one (.one (.int .u64))) fun (u10 : Int) =>
  splitW (decide ((IntKind.wrap .i64 u10) > u2)) (ldAW [(.int .u8), (.int .u64), .str] (⟨r1, 0, none⟩ : Addr) fun (u11 : (Int × Int × ByteArray × Unit)) =>
  guardW ((#[(.int .u8 u11.1), (.int .u64 u11.2.1), (.string u11.2.2.1)] : Array Value).size = 3) <|
  stAW (⟨r1, 0, none⟩ : Addr) [(.int .u8 u11.1), (.int .u64 u11.2.1), (.string u11.2.2.1)] <|
  ldAW [(.int .u8), (.int .u64), .str] (⟨r1, 0, none⟩ : Addr) fun (u12 : (Int × Int × ByteArray × Unit)) => K (.tuple #[(.agg #[(.int .u8 u12.1), (.int .u64 u12.2.1), (.string u12.2.2.1)]), (.int .i64 (4 : Int))])) <|
  drewW <|
  guardW (0 ≤ (0 : Int) ∧ (0 : Int) < ((u5.2.1 : Nat) : Int)) <|
  ptrW u5.1 fun (p13 : Addr) =>
  ldW (.int .u8) (p13.add (Int.toNat (0 : Int) * 1)) fun (u14 : Int) =>
  guardW (0 ≤ (4 : Int) ∧ (4 : Int) ≤ (12 : Int) ∧ (12 : Int) ≤ ((u5.2.2 : Nat) : Int)) <|
  guardW (0 ≤ (12 : Int) ∧ (12 : Int) ≤ (IntKind.wrap .i64 ((12 : Int) + (IntKind.wrap .i64 u10))) ∧ (IntKind.wrap .i64 ((12 : Int) + (IntKind.wrap .i64 u10))) ≤ ((x0.size : Nat) : Int)) <|
  callW Tryz.prog 98 [(.slice (cutAddr u5.1 (Int.toNat (4 : Int)) u5.2.2 1) ((Int.toNat (12 : Int)) - (Int.toNat (4 : Int))) (u5.2.2 - (Int.toNat (4 : Int))))] (.one (.one (.int .u64))) fun (u15 : Int) =>
  heldW [[((p13.add (Int.toNat (0 : Int) * 1)), (.int .u8 u14))]] <|
  guardW ((#[(.int .u8 u14), (.int .u64 u15), (.string (ByteArray.extract x0 (Int.toNat (12 : Int)) (Int.toNat (IntKind.wrap .i64 ((12 : Int) + (IntKind.wrap .i64 u10))))))] : Array Value).size = 3) <|
  stAW (⟨r1, 0, none⟩ : Addr) [(.int .u8 u14), (.int .u64 u15), (.string (ByteArray.extract x0 (Int.toNat (12 : Int)) (Int.toNat (IntKind.wrap .i64 ((12 : Int) + (IntKind.wrap .i64 u10))))))] <|
  ldAW [(.int .u8), (.int .u64), .str] (⟨r1, 0, none⟩ : Addr) fun (u16 : (Int × Int × ByteArray × Unit)) =>
  callW Tryz.prog 101 [(.int .i64 ((x0.size : Nat) : Int)), (.agg #[(.int .u8 u16.1), (.int .u64 u16.2.1), (.string u16.2.2.1)])] (.many [(.one .str), (.one (.int .i64))]) fun (u17 : ByteArray × Int × Unit) =>
  splitW (u17.2.1 != (0 : Int)) (guardW ((#[(.int .u8 (0 : Int)), (.int .u64 (0 : Int)), (.string ByteArray.empty)] : Array Value).size = 3) <|
  stAW (⟨r1, 0, none⟩ : Addr) [(.int .u8 (0 : Int)), (.int .u64 (0 : Int)), (.string ByteArray.empty)] <|
  ldAW [(.int .u8), (.int .u64), .str] (⟨r1, 0, none⟩ : Addr) fun (u18 : (Int × Int × ByteArray × Unit)) => K (.tuple #[(.agg #[(.int .u8 u18.1), (.int .u64 u18.2.1), (.string u18.2.2.1)]), (.int .i64 (4 : Int))])) <|
  splitW (!(u17.1.toList == x0.toList)) (guardW ((#[(.int .u8 (0 : Int)), (.int .u64 (0 : Int)), (.string ByteArray.empty)] : Array Value).size = 3) <|
  stAW (⟨r1, 0, none⟩ : Addr) [(.int .u8 (0 : Int)), (.int .u64 (0 : Int)), (.string ByteArray.empty)] <|
  ldAW [(.int .u8), (.int .u64), .str] (⟨r1, 0, none⟩ : Addr) fun (u19 : (Int × Int × ByteArray × Unit)) => K (.tuple #[(.agg #[(.int .u8 u19.1), (.int .u64 u19.2.1), (.string u19.2.2.1)]), (.int .i64 (4 : Int))])) <|
  ldAW [(.int .u8), (.int .u64), .str] (⟨r1, 0, none⟩ : Addr) fun (u20 : (Int × Int × ByteArray × Unit)) =>
  guardW ((#[(.int .u8 u20.1), (.int .u64 u20.2.1), (.string u20.2.2.1)] : Array Value).size = 3) <|
  stAW (⟨r1, 0, none⟩ : Addr) [(.int .u8 u20.1), (.int .u64 u20.2.1), (.string u20.2.2.1)] <|
  ldAW [(.int .u8), (.int .u64), .str] (⟨r1, 0, none⟩ : Addr) fun (u21 : (Int × Int × ByteArray × Unit)) => K (.tuple #[(.agg #[(.int .u8 u21.1), (.int .u64 u21.2.1), (.string u21.2.2.1)]), (.int .i64 (0 : Int))])
theorem eq94 (x0 : ByteArray) (K : Value → WP) : bodyW Tryz.prog Tryz.f94 an94 false [(.string x0)] K = S94 x0 K := by kernel_rfl
theorem calls94 (x0 : ByteArray) {K : Value → WP} {w : World} (h : S94 x0 K w) : Calls Tryz.prog 94 #[(.string x0)] w (Ret K) := callsR_of_bodyW mixed Tryz.func94 (of_decide_eq_true (by kernel_rfl)) (by rw [eq94]; exact h)

/-- shadowbook/counts.Load$1 -/
def an95 : Ann := (.seq .nil (.seq .nil .nil))
def S95 (x0 : ByteArray) (x1 : ByteArray) (K : Value → WP) : WP := 
  K (.bool (((x0.size : Nat) : Int) == ((x1.size : Nat) : Int)))
theorem eq95 (x0 : ByteArray) (x1 : ByteArray) (K : Value → WP) : bodyW Tryz.prog Tryz.f95 an95 false [(.string x0), (.string x1)] K = S95 x0 x1 K := by kernel_rfl
theorem calls95 (x0 : ByteArray) (x1 : ByteArray) {K : Value → WP} {w : World} (h : S95 x0 x1 K w) : Calls Tryz.prog 95 #[(.string x0), (.string x1)] w (Ret K) := callsR_of_bodyW mixed Tryz.func95 (of_decide_eq_true (by kernel_rfl)) (by rw [eq95]; exact h)

/-- slices.EqualFunc[[]string,[]string,string,string] -/
def an96 : Ann := (.seq .nil (.seq (.seq .nil (.cond (.seq .nil .nil) .nil)) (.seq (.seq .nil (.block (.loop [(17, .sh (.one (.int .i64)))] [1, 2, 15, 16, 1000000] (.seq .nil (.seq (.cond .nil .nil) (.seq (.block (.seq .nil (.seq .nil (.seq .nil (.cond (.seq .nil .nil) .nil))))) .nil)))))) (.seq .nil .nil))))
def S96 (a0 : Option Addr) (n0 c0 : Nat) (a1 : Option Addr) (n1 c1 : Nat) (x2 : Value) (K : Value → WP) : WP := 
  splitW (((n0 : Nat) : Int) != ((n1 : Nat) : Int)) (K (.bool false)) <|
  loopW (Int × Unit) ((0 : Int), ()) fun (y2 : Int × Unit) (I1 : (Int × Unit) → WP) =>
  splitW (decide (y2.1 < ((n0 : Nat) : Int))) (guardW (0 ≤ y2.1 ∧ y2.1 < ((n0 : Nat) : Int)) <|
  ptrW a0 fun (p3 : Addr) =>
  ldW .str (p3.add (Int.toNat y2.1 * 1)) fun (u4 : ByteArray) =>
  guardW (0 ≤ y2.1 ∧ y2.1 < ((n1 : Nat) : Int)) <|
  ptrW a1 fun (p5 : Addr) =>
  ldW .str (p5.add (Int.toNat y2.1 * 1)) fun (u6 : ByteArray) =>
  callVW Tryz.prog x2 [(.string u4), (.string u6)] (.one (.one .bool)) fun (u7 : Bool) =>
  splitW (!u7) (K (.bool false)) <| I1 ((IntKind.wrap .i64 (y2.1 + (1 : Int))), ())) <| K (.bool true)
theorem eq96 (a0 : Option Addr) (n0 c0 : Nat) (a1 : Option Addr) (n1 c1 : Nat) (x2 : Value) (K : Value → WP) : bodyW Tryz.prog Tryz.f96 an96 false [(.slice a0 n0 c0), (.slice a1 n1 c1), x2] K = S96 a0 n0 c0 a1 n1 c1 x2 K := by kernel_rfl
theorem calls96 (a0 : Option Addr) (n0 c0 : Nat) (a1 : Option Addr) (n1 c1 : Nat) (x2 : Value) {K : Value → WP} {w : World} (h : S96 a0 n0 c0 a1 n1 c1 x2 K w) : Calls Tryz.prog 96 #[(.slice a0 n0 c0), (.slice a1 n1 c1), x2] w (Ret K) := callsR_of_bodyW mixed Tryz.func96 (of_decide_eq_true (by kernel_rfl)) (by rw [eq96]; exact h)

/-- slices.Chunk[[]byte,byte] -/
def an97 : Ann := (.seq .nil (.seq (.seq .nil (.cond .nil .nil)) (.seq .nil .nil)))
def S97 (a0 : Option Addr) (n0 c0 : Nat) (x1 : Int) (K : Value → WP) : WP := 
  newW (.cells #[(.slice a0 n0 c0)] 62) fun (r1 : Nat) =>
  newW (.cells #[(.int .i64 x1)] 3) fun (r2 : Nat) =>
  ldW (.int .i64) (⟨r2, 0, none⟩ : Addr) fun (u3 : Int) =>
  splitW (decide (u3 < (1 : Int))) (FalseW) <| K (.func (.func 119) #[] #[(.pointer (some (⟨r1, 0, none⟩ : Addr))), (.pointer (some (⟨r2, 0, none⟩ : Addr)))])
theorem eq97 (a0 : Option Addr) (n0 c0 : Nat) (x1 : Int) (K : Value → WP) : bodyW Tryz.prog Tryz.f97 an97 false [(.slice a0 n0 c0), (.int .i64 x1)] K = S97 a0 n0 c0 x1 K := by kernel_rfl
theorem calls97 (a0 : Option Addr) (n0 c0 : Nat) (x1 : Int) {K : Value → WP} {w : World} (h : S97 a0 n0 c0 x1 K w) : Calls Tryz.prog 97 #[(.slice a0 n0 c0), (.int .i64 x1)] w (Ret K) := callsR_of_bodyW mixed Tryz.func97 (of_decide_eq_true (by kernel_rfl)) (by rw [eq97]; exact h)

/-- shadowbook/octet.Of -/
def an98 : Ann := (.seq .nil (.seq (.seq .nil (.cond (.seq .nil .nil) .nil)) (.seq (.seq .nil (.block (.loop [(10, .sh (.one (.int .i64))), (11, .sh (.one (.int .u8)))] [] (.seq .nil (.block .nil))))) (.seq .nil .nil))))
def S98 (a0 : Option Addr) (n0 c0 : Nat) (K : Value → WP) : WP := 
  newW (.cells #[(.int .u64 (0 : Int))] 50) fun (r1 : Nat) =>
  splitW (decide (((n0 : Nat) : Int) > (8 : Int))) (stW (⟨r1, 0, none⟩ : Addr) (.int .u64 (0 : Int)) <|
  leaveW Tryz.prog [] <|
  ldW (.int .u64) (⟨r1, 0, none⟩ : Addr) fun (u2 : Int) => K (.int .u64 u2)) <|
  callW Tryz.prog 120 [(.slice a0 n0 c0)] (.one (.one .any)) fun (u3 : Value) =>
  rangeW Tryz.prog u3 (Int × Int × Unit) (fun (t4 : Int × Int × Unit) => [(.int .i64 t4.1), (.int .u8 t4.2.1)]) (fun (t4 : Int × Int × Unit) (B5 : WP → WP) (N6 : WP) (Q7 : Code → WP) => B5 (ldW (.int .u64) (⟨r1, 0, none⟩ : Addr) fun (u10 : Int) =>
  stW (⟨r1, 0, none⟩ : Addr) (.int .u64 (ior .u64 (ishl .u64 u10 (8 : Int)) (IntKind.wrap .u64 t4.2.1))) <| N6)) fun (r8 : Nat) (p9 : Option Code) =>
  jumpK (ldW (.int .u64) (⟨r1, 0, none⟩ : Addr) fun (u11 : Int) =>
  stW (⟨r1, 0, none⟩ : Addr) (.int .u64 u11) <|
  leaveW Tryz.prog (⟨.collected r8, #[]⟩ :: []) <|
  ldW (.int .u64) (⟨r1, 0, none⟩ : Addr) fun (u12 : Int) => K (.int .u64 u12)) (leaveW Tryz.prog (⟨.collected r8, #[]⟩ :: []) <|
  ldW (.int .u64) (⟨r1, 0, none⟩ : Addr) fun (u13 : Int) => K (.int .u64 u13)) [] p9
theorem eq98 (a0 : Option Addr) (n0 c0 : Nat) (K : Value → WP) : bodyW Tryz.prog Tryz.f98 an98 true [(.slice a0 n0 c0)] K = S98 a0 n0 c0 K := by kernel_rfl
theorem calls98 (a0 : Option Addr) (n0 c0 : Nat) {K : Value → WP} {w : World} (h : S98 a0 n0 c0 K w) : Calls Tryz.prog 98 #[(.slice a0 n0 c0)] w (Ret K) := callsR_of_bodyW mixed Tryz.func98 (of_decide_eq_true (by kernel_rfl)) (by rw [eq98]; exact h)

/-- slices.IndexFunc[[]uint32,uint32] -/
def an99 : Ann := (.seq .nil (.seq (.seq .nil (.block (.loop [(8, .sh (.one (.int .i64)))] [0, 1, 7, 1000000] (.seq .nil (.seq (.cond .nil .nil) (.seq (.block (.seq .nil (.seq .nil (.cond (.seq .nil .nil) .nil)))) .nil)))))) (.seq .nil .nil)))
def S99 (a0 : Option Addr) (n0 c0 : Nat) (x1 : Value) (K : Value → WP) : WP := 
  loopW (Int × Unit) ((0 : Int), ()) fun (y2 : Int × Unit) (I1 : (Int × Unit) → WP) =>
  splitW (decide (y2.1 < ((n0 : Nat) : Int))) (guardW (0 ≤ y2.1 ∧ y2.1 < ((n0 : Nat) : Int)) <|
  ptrW a0 fun (p3 : Addr) =>
  ldW (.int .u32) (p3.add (Int.toNat y2.1 * 1)) fun (u4 : Int) =>
  callVW Tryz.prog x1 [(.int .u32 u4)] (.one (.one .bool)) fun (u5 : Bool) =>
  splitW u5 (K (.int .i64 y2.1)) <| I1 ((IntKind.wrap .i64 (y2.1 + (1 : Int))), ())) <| K (.int .i64 (-1 : Int))
theorem eq99 (a0 : Option Addr) (n0 c0 : Nat) (x1 : Value) (K : Value → WP) : bodyW Tryz.prog Tryz.f99 an99 false [(.slice a0 n0 c0), x1] K = S99 a0 n0 c0 x1 K := by kernel_rfl
theorem calls99 (a0 : Option Addr) (n0 c0 : Nat) (x1 : Value) {K : Value → WP} {w : World} (h : S99 a0 n0 c0 x1 K w) : Calls Tryz.prog 99 #[(.slice a0 n0 c0), x1] w (Ret K) := callsR_of_bodyW mixed Tryz.func99 (of_decide_eq_true (by kernel_rfl)) (by rw [eq99]; exact h)

/-- (*shadowbook/space.Space).take$1 -/
def an100 : Ann := (.seq .nil (.block (.loop [(6, .sh (.one (.int .i64)))] [1, 4, 5, 1000000] (.seq .nil (.seq (.cond .nil .nil) (.seq (.block (.seq .nil .nil)) .nil))))))
def S100 (a0 : Addr) (a1 : Addr) (K : Value → WP) : WP := 
  ldW .slc a0 fun (u1 : (Option Addr × Nat × Nat)) =>
  loopW (Int × Unit) ((0 : Int), ()) fun (y3 : Int × Unit) (I2 : (Int × Unit) → WP) =>
  splitW (decide (y3.1 < ((u1.2.1 : Nat) : Int))) (guardW (0 ≤ y3.1 ∧ y3.1 < ((u1.2.1 : Nat) : Int)) <|
  ptrW u1.1 fun (p4 : Addr) =>
  ldW (.int .u32) (p4.add (Int.toNat y3.1 * 1)) fun (u5 : Int) =>
  ldW .ptr a1 fun (u6 : Option Addr) =>
  ptrW u6 fun (p7 : Addr) =>
  ldW .ptr (p7.add 8) fun (u8 : Option Addr) =>
  callW Tryz.prog 60 [(.pointer u8), (.int .u32 u5)] (.many [(.one (.int .i64)), (.one (.int .i64))]) fun (u9 : Int × Int × Unit) => I2 ((IntKind.wrap .i64 (y3.1 + (1 : Int))), ())) <| K (.tuple #[])
theorem eq100 (a0 : Addr) (a1 : Addr) (K : Value → WP) : bodyW Tryz.prog Tryz.f100 an100 false [(.pointer (some a0)), (.pointer (some a1))] K = S100 a0 a1 K := by kernel_rfl
theorem callsD100 (a0 : Addr) (a1 : Addr) {K : Value → WP} {w : World} (h : S100 a0 a1 K w) : DCalls Tryz.prog 100 [(.pointer (some a0)), (.pointer (some a1))] w K := callsD_of_bodyW mixed Tryz.func100 (of_decide_eq_true (by kernel_rfl)) (by rw [eq100]; exact h)

/-- shadowbook/frame.Put -/
def an101 : Ann := (.seq .nil (.seq .nil (.seq (.block (.seq .nil (.cond (.seq .nil .nil) (.seq .nil (.cond (.seq .nil .nil) .nil))))) (.seq .nil (.seq .nil (.seq .nil (.seq .nil (.seq .nil (.seq .nil (.seq .nil (.seq .nil .nil)))))))))))
def S101 (x0 : Int) (x1_0 : Int) (x1_1 : Int) (x1_2 : ByteArray) (K : Value → WP) : WP := 
  newW (.cells #[(.int .u8 x1_0), (.int .u64 x1_1), (.string x1_2)] 97) fun (r1 : Nat) =>
  callW Tryz.prog 64 [(.int .i64 x0)] (.one (.one (.int .i64))) fun (u2 : Int) =>
  splitW (u2 == (0 : Int)) (K (.tuple #[(.string (ByteArray.mk #[])), (.int .i64 (2 : Int))])) <|
  ldW .str ((⟨r1, 0, none⟩ : Addr).add 2) fun (u3 : ByteArray) =>
  splitW (decide (((u3.size : Nat) : Int) > u2)) (K (.tuple #[(.string (ByteArray.mk #[])), (.int .i64 (3 : Int))])) <|
  runW Tryz.prog (Instr.makeSlice 62 (.int .i64 x0) (.int .i64 x0)) .slc fun (u4 : Option Addr × Nat × Nat) =>
  drewW <|
  guardW (0 ≤ (0 : Int) ∧ (0 : Int) ≤ (12 : Int) ∧ (12 : Int) ≤ ((u4.2.2 : Nat) : Int)) <|
  ldW (.int .u8) (⟨r1, 0, none⟩ : Addr) fun (u5 : Int) =>
  newW (.cells #[(.int .u8 u5), (.int .u8 (0 : Int))] 5) fun (r6 : Nat) =>
  runW Tryz.prog (Builtin.append_ #[62, 62] 62 #[(.slice (cutAddr u4.1 0 (Int.toNat (12 : Int)) 1) (Int.toNat (0 : Int)) (Int.toNat (12 : Int))), (.slice (some (⟨r6, 0, none⟩ : Addr)) 2 2)]) .slc fun (u7 : (Option Addr × Nat × Nat)) =>
  ldW .str ((⟨r1, 0, none⟩ : Addr).add 2) fun (u8 : ByteArray) =>
  callW Tryz.prog 58 [(.slice u7.1 u7.2.1 u7.2.2), (.int .u64 (IntKind.wrap .u64 ((u8.size : Nat) : Int))), (.int .i64 (2 : Int))] (.one (.one .slc)) fun (u9 : (Option Addr × Nat × Nat)) =>
  ldW (.int .u64) ((⟨r1, 0, none⟩ : Addr).add 1) fun (u10 : Int) =>
  callW Tryz.prog 58 [(.slice u9.1 u9.2.1 u9.2.2), (.int .u64 u10), (.int .i64 (8 : Int))] (.one (.one .slc)) fun (u11 : (Option Addr × Nat × Nat)) =>
  drewW <|
  guardW (0 ≤ (12 : Int) ∧ (12 : Int) ≤ ((u4.2.1 : Nat) : Int)) <|
  ldW .str ((⟨r1, 0, none⟩ : Addr).add 2) fun (u12 : ByteArray) =>
  runW Tryz.prog (Builtin.copy_ #[62, 9] 3 #[(.slice (cutAddr u4.1 (Int.toNat (12 : Int)) u4.2.2 1) (u4.2.1 - (Int.toNat (12 : Int))) (u4.2.2 - (Int.toNat (12 : Int)))), (.string u12)]) (.int .i64) fun (u13 : Int) =>
  drewW <|
  guardW (0 ≤ (IntKind.wrap .i64 (x0 - (4 : Int))) ∧ (IntKind.wrap .i64 (x0 - (4 : Int))) ≤ (IntKind.wrap .i64 (x0 - (4 : Int))) ∧ (IntKind.wrap .i64 (x0 - (4 : Int))) ≤ x0 ∧ x0 ≤ ((u4.2.2 : Nat) : Int)) <|
  guardW (0 ≤ (IntKind.wrap .i64 (x0 - (4 : Int))) ∧ (IntKind.wrap .i64 (x0 - (4 : Int))) ≤ ((u4.2.2 : Nat) : Int)) <|
  callW Tryz.prog 118 [(.slice (cutAddr u4.1 0 u4.2.2 1) (Int.toNat (IntKind.wrap .i64 (x0 - (4 : Int)))) u4.2.2)] (.one (.one (.int .u32))) fun (u14 : Int) =>
  callW Tryz.prog 58 [(.slice (cutAddr u4.1 (Int.toNat (IntKind.wrap .i64 (x0 - (4 : Int)))) (Int.toNat x0) 1) ((Int.toNat (IntKind.wrap .i64 (x0 - (4 : Int)))) - (Int.toNat (IntKind.wrap .i64 (x0 - (4 : Int))))) ((Int.toNat x0) - (Int.toNat (IntKind.wrap .i64 (x0 - (4 : Int)))))), (.int .u64 (IntKind.wrap .u64 u14)), (.int .i64 (4 : Int))] (.one (.one .slc)) fun (u15 : (Option Addr × Nat × Nat)) =>
  runW Tryz.prog (Go.convert 62 9 (.slice u4.1 u4.2.1 u4.2.2)) .str fun (u16 : ByteArray) => K (.tuple #[(.string u16), (.int .i64 (0 : Int))])
theorem eq101 (x0 : Int) (x1_0 : Int) (x1_1 : Int) (x1_2 : ByteArray) (K : Value → WP) : bodyW Tryz.prog Tryz.f101 an101 false [(.int .i64 x0), (.agg #[(.int .u8 x1_0), (.int .u64 x1_1), (.string x1_2)])] K = S101 x0 x1_0 x1_1 x1_2 K := by kernel_rfl
theorem calls101 (x0 : Int) (x1_0 : Int) (x1_1 : Int) (x1_2 : ByteArray) {K : Value → WP} {w : World} (h : S101 x0 x1_0 x1_1 x1_2 K w) : Calls Tryz.prog 101 #[(.int .i64 x0), (.agg #[(.int .u8 x1_0), (.int .u64 x1_1), (.string x1_2)])] w (Ret K) := callsR_of_bodyW mixed Tryz.func101 (of_decide_eq_true (by kernel_rfl)) (by rw [eq101]; exact h)

/-- (*shadowbook/counts.Counts).at -/
def an102 : Ann := (.seq .nil (.seq (.block (.seq .nil (.cond (.seq .nil .nil) (.seq .nil (.cond (.seq .nil .nil) (.seq .nil (.cond (.seq .nil .nil) .nil))))))) (.seq .nil .nil)))
def S102 (x0 : Option Addr) (x1 : Int) (K : Value → WP) : WP := 
  splitW (Option.isNone x0) (K (.tuple #[(.pointer none), (.int .i64 (1 : Int))])) <|
  splitW (decide (x1 < (2 : Int))) (K (.tuple #[(.pointer none), (.int .i64 (2 : Int))])) <|
  ptrW x0 fun (p1 : Addr) =>
  ldW .slc (p1.add 2) fun (u2 : (Option Addr × Nat × Nat)) =>
  splitW (decide ((IntKind.wrap .u64 x1) ≥ (IntKind.wrap .u64 ((u2.2.1 : Nat) : Int)))) (K (.tuple #[(.pointer none), (.int .i64 (2 : Int))])) <|
  ptrW x0 fun (p3 : Addr) =>
  ldW .slc (p3.add 2) fun (u4 : (Option Addr × Nat × Nat)) =>
  guardW (0 ≤ x1 ∧ x1 < ((u4.2.1 : Nat) : Int)) <|
  ptrW u4.1 fun (p5 : Addr) =>
  ldW (.int .u16) (p5.add (Int.toNat x1 * 1)) fun (u6 : Int) =>
  splitW (u6 == (0 : Int)) (K (.tuple #[(.pointer none), (.int .i64 (8 : Int))])) <|
  ptrW x0 fun (p7 : Addr) =>
  ldW .slc (p7.add 2) fun (u8 : (Option Addr × Nat × Nat)) =>
  guardW (0 ≤ x1 ∧ x1 < ((u8.2.1 : Nat) : Int)) <|
  ptrW u8.1 fun (p9 : Addr) => K (.tuple #[(.pointer (some (p9.add (Int.toNat x1 * 1)))), (.int .i64 (0 : Int))])
theorem eq102 (x0 : Option Addr) (x1 : Int) (K : Value → WP) : bodyW Tryz.prog Tryz.f102 an102 false [(.pointer x0), (.int .u32 x1)] K = S102 x0 x1 K := by kernel_rfl
theorem calls102 (x0 : Option Addr) (x1 : Int) {K : Value → WP} {w : World} (h : S102 x0 x1 K w) : Calls Tryz.prog 102 #[(.pointer x0), (.int .u32 x1)] w (Ret K) := callsR_of_bodyW mixed Tryz.func102 (of_decide_eq_true (by kernel_rfl)) (by rw [eq102]; exact h)

/-- (*shadowbook/space.Space).free$1 -/
def an103 : Ann := (.seq .nil (.block (.loop [(3, .sh (.one (.int .u32)))] [0, 1, 1000000] (.seq (.seq .nil (.cond .nil .nil)) (.seq (.block (.seq .nil (.cond .nil .nil))) .nil)))))
def S103 (x0 : Value) (a1 : Addr) (K : Value → WP) : WP := 
  loopW (Int × Unit) ((2 : Int), ()) fun (y2 : Int × Unit) (I1 : (Int × Unit) → WP) =>
  ldW .ptr a1 fun (u3 : Option Addr) =>
  ptrW u3 fun (p4 : Addr) =>
  ldW (.int .i64) (((p4.add 1).add 1).add 1) fun (u5 : Int) =>
  splitW (decide ((IntKind.wrap .i64 y2.1) < u5)) (drewW <|
  ldW .ptr a1 fun (u6 : Option Addr) =>
  ptrW u6 fun (p7 : Addr) =>
  ldW .ptr (p7.add 8) fun (u8 : Option Addr) =>
  ldW .ptr a1 fun (u9 : Option Addr) =>
  ptrW u9 fun (p10 : Addr) =>
  ldW .ptr (p10.add 7) fun (u11 : Option Addr) =>
  ldW .ptr a1 fun (u12 : Option Addr) =>
  ptrW u12 fun (p13 : Addr) =>
  ldW .ptr (p13.add 9) fun (u14 : Option Addr) =>
  callW Tryz.prog 56 [(.pointer u8), (.int .u32 y2.1)] (.one (.one (.int .i64))) fun (u15 : Int) =>
  heldW [[((p13.add 9), (.pointer u14))], [(a1, (.pointer u12))], [((p10.add 7), (.pointer u11))], [(a1, (.pointer u9))]] <|
  callW Tryz.prog 56 [(.pointer u11), (.int .u32 y2.1)] (.one (.one (.int .i64))) fun (u16 : Int) =>
  heldW [[((p13.add 9), (.pointer u14))], [(a1, (.pointer u12))]] <|
  callW Tryz.prog 56 [(.pointer u14), (.int .u32 y2.1)] (.one (.one (.int .i64))) fun (u17 : Int) =>
  splitW ((IntKind.wrap .i64 ((IntKind.wrap .i64 (u15 + u16)) + u17)) == (0 : Int)) (callVW Tryz.prog x0 [(.int .u32 y2.1)] (.one (.one .bool)) fun (u18 : Bool) =>
  splitW (!u18) (K (.tuple #[])) <| I1 ((IntKind.wrap .u32 (y2.1 + (1 : Int))), ())) <| I1 ((IntKind.wrap .u32 (y2.1 + (1 : Int))), ())) <| K (.tuple #[])
theorem eq103 (x0 : Value) (a1 : Addr) (K : Value → WP) : bodyW Tryz.prog Tryz.f103 an103 false [x0, (.pointer (some a1))] K = S103 x0 a1 K := by kernel_rfl
theorem calls103 (x0 : Value) (a1 : Addr) {K : Value → WP} {w : World} (h : S103 x0 a1 K w) : Calls Tryz.prog 103 #[x0, (.pointer (some a1))] w (Ret K) := callsR_of_bodyW mixed Tryz.func103 (of_decide_eq_true (by kernel_rfl)) (by rw [eq103]; exact h)

/-- shadowbook/octet.New -/
def an104 : Ann := (.seq .nil (.seq .nil .nil))
def S104 (a0 : Option Addr) (n0 c0 : Nat) (K : Value → WP) : WP := 
  callW Tryz.prog 121 [(.slice a0 n0 c0)] (.one (.one .slc)) fun (u1 : (Option Addr × Nat × Nat)) =>
  newW (.cells #[(.slice u1.1 u1.2.1 u1.2.2)] 191) fun (r2 : Nat) => K (.pointer (some (⟨r2, 0, none⟩ : Addr)))
theorem eq104 (a0 : Option Addr) (n0 c0 : Nat) (K : Value → WP) : bodyW Tryz.prog Tryz.f104 an104 false [(.slice a0 n0 c0)] K = S104 a0 n0 c0 K := by kernel_rfl
theorem calls104 (a0 : Option Addr) (n0 c0 : Nat) {K : Value → WP} {w : World} (h : S104 a0 n0 c0 K w) : Calls Tryz.prog 104 #[(.slice a0 n0 c0)] w (Ret K) := callsR_of_bodyW mixed Tryz.func104 (of_decide_eq_true (by kernel_rfl)) (by rw [eq104]; exact h)

/-- (*shadowbook/octet.Reader).Number -/
def an105 : Ann := (.seq .nil (.seq (.block (.seq .nil (.cond (.seq .nil .nil) (.seq .nil (.cond (.seq .nil .nil) .nil))))) (.seq .nil (.seq .nil .nil))))
def S105 (x0 : Option Addr) (x1 : Int) (K : Value → WP) : WP := 
  splitW (Option.isNone x0) (K (.tuple #[(.int .u64 (0 : Int)), (.int .i64 (1 : Int))])) <|
  splitW (decide (x1 < (1 : Int))) (K (.tuple #[(.int .u64 (0 : Int)), (.int .i64 (2 : Int))])) <|
  splitW (decide (x1 > (8 : Int))) (K (.tuple #[(.int .u64 (0 : Int)), (.int .i64 (2 : Int))])) <|
  callW Tryz.prog 122 [(.pointer x0), (.int .i64 x1)] (.many [(.one .slc), (.one (.int .i64))]) fun (u1 : (Option Addr × Nat × Nat) × Int × Unit) =>
  callW Tryz.prog 98 [(.slice u1.1.1 u1.1.2.1 u1.1.2.2)] (.one (.one (.int .u64))) fun (u2 : Int) => K (.tuple #[(.int .u64 u2), (.int .i64 u1.2.1)])
theorem eq105 (x0 : Option Addr) (x1 : Int) (K : Value → WP) : bodyW Tryz.prog Tryz.f105 an105 false [(.pointer x0), (.int .i64 x1)] K = S105 x0 x1 K := by kernel_rfl
theorem calls105 (x0 : Option Addr) (x1 : Int) {K : Value → WP} {w : World} (h : S105 x0 x1 K w) : Calls Tryz.prog 105 #[(.pointer x0), (.int .i64 x1)] w (Ret K) := callsR_of_bodyW mixed Tryz.func105 (of_decide_eq_true (by kernel_rfl)) (by rw [eq105]; exact h)

/-- (*shadowbook/octet.Reader).Bytes -/
def an106 : Ann := (.seq .nil (.seq (.block (.seq .nil (.cond (.seq .nil .nil) (.seq .nil (.cond (.seq .nil .nil) .nil))))) (.seq .nil (.seq .nil .nil))))
def S106 (x0 : Option Addr) (x1 : Int) (K : Value → WP) : WP := 
  splitW (Option.isNone x0) (K (.tuple #[(.slice none 0 0), (.int .i64 (1 : Int))])) <|
  splitW (decide (x1 < (0 : Int))) (K (.tuple #[(.slice none 0 0), (.int .i64 (2 : Int))])) <|
  callW Tryz.prog 122 [(.pointer x0), (.int .i64 x1)] (.many [(.one .slc), (.one (.int .i64))]) fun (u1 : (Option Addr × Nat × Nat) × Int × Unit) =>
  callW Tryz.prog 121 [(.slice u1.1.1 u1.1.2.1 u1.1.2.2)] (.one (.one .slc)) fun (u2 : (Option Addr × Nat × Nat)) => K (.tuple #[(.slice u2.1 u2.2.1 u2.2.2), (.int .i64 u1.2.1)])
theorem eq106 (x0 : Option Addr) (x1 : Int) (K : Value → WP) : bodyW Tryz.prog Tryz.f106 an106 false [(.pointer x0), (.int .i64 x1)] K = S106 x0 x1 K := by kernel_rfl
theorem calls106 (x0 : Option Addr) (x1 : Int) {K : Value → WP} {w : World} (h : S106 x0 x1 K w) : Calls Tryz.prog 106 #[(.pointer x0), (.int .i64 x1)] w (Ret K) := callsR_of_bodyW mixed Tryz.func106 (of_decide_eq_true (by kernel_rfl)) (by rw [eq106]; exact h)

/-- (*shadowbook/octet.Reader).Left -/
def an107 : Ann := (.seq .nil (.seq (.seq .nil (.cond (.seq .nil .nil) .nil)) (.seq .nil .nil)))
def S107 (x0 : Option Addr) (K : Value → WP) : WP := 
  splitW (Option.isNone x0) (K (.int .i64 (0 : Int))) <|
  ptrW x0 fun (p1 : Addr) =>
  ldW .slc p1 fun (u2 : (Option Addr × Nat × Nat)) => K (.int .i64 ((u2.2.1 : Nat) : Int))
theorem eq107 (x0 : Option Addr) (K : Value → WP) : bodyW Tryz.prog Tryz.f107 an107 false [(.pointer x0)] K = S107 x0 K := by kernel_rfl
theorem calls107 (x0 : Option Addr) {K : Value → WP} {w : World} (h : S107 x0 K w) : Calls Tryz.prog 107 #[(.pointer x0)] w (Ret K) := callsR_of_bodyW mixed Tryz.func107 (of_decide_eq_true (by kernel_rfl)) (by rw [eq107]; exact h)

/-- slices.Index[[]uint32,uint32] -/
def an110 : Ann := (.seq .nil (.seq (.seq .nil (.block (.loop [(8, .sh (.one (.int .i64)))] [0, 1, 7, 1000000] (.seq .nil (.seq (.cond .nil .nil) (.seq (.block (.seq .nil (.seq .nil (.cond (.seq .nil .nil) .nil)))) .nil)))))) (.seq .nil .nil)))
def S110 (a0 : Option Addr) (n0 c0 : Nat) (x1 : Int) (K : Value → WP) : WP := 
  loopW (Int × Unit) ((0 : Int), ()) fun (y2 : Int × Unit) (I1 : (Int × Unit) → WP) =>
  splitW (decide (y2.1 < ((n0 : Nat) : Int))) (guardW (0 ≤ y2.1 ∧ y2.1 < ((n0 : Nat) : Int)) <|
  ptrW a0 fun (p3 : Addr) =>
  ldW (.int .u32) (p3.add (Int.toNat y2.1 * 1)) fun (u4 : Int) =>
  splitW (x1 == u4) (K (.int .i64 y2.1)) <| I1 ((IntKind.wrap .i64 (y2.1 + (1 : Int))), ())) <| K (.int .i64 (-1 : Int))
theorem eq110 (a0 : Option Addr) (n0 c0 : Nat) (x1 : Int) (K : Value → WP) : bodyW Tryz.prog Tryz.f110 an110 false [(.slice a0 n0 c0), (.int .u32 x1)] K = S110 a0 n0 c0 x1 K := by kernel_rfl
theorem calls110 (a0 : Option Addr) (n0 c0 : Nat) (x1 : Int) {K : Value → WP} {w : World} (h : S110 a0 n0 c0 x1 K w) : Calls Tryz.prog 110 #[(.slice a0 n0 c0), (.int .u32 x1)] w (Ret K) := callsR_of_bodyW mixed Tryz.func110 (of_decide_eq_true (by kernel_rfl)) (by rw [eq110]; exact h)

/-- slices.Chunk[[]uint16,uint16] -/
def an111 : Ann := (.seq .nil (.seq (.seq .nil (.cond .nil .nil)) (.seq .nil .nil)))
def S111 (a0 : Option Addr) (n0 c0 : Nat) (x1 : Int) (K : Value → WP) : WP := 
  newW (.cells #[(.slice a0 n0 c0)] 126) fun (r1 : Nat) =>
  newW (.cells #[(.int .i64 x1)] 3) fun (r2 : Nat) =>
  ldW (.int .i64) (⟨r2, 0, none⟩ : Addr) fun (u3 : Int) =>
  splitW (decide (u3 < (1 : Int))) (FalseW) <| K (.func (.func 123) #[] #[(.pointer (some (⟨r1, 0, none⟩ : Addr))), (.pointer (some (⟨r2, 0, none⟩ : Addr)))])
theorem eq111 (a0 : Option Addr) (n0 c0 : Nat) (x1 : Int) (K : Value → WP) : bodyW Tryz.prog Tryz.f111 an111 false [(.slice a0 n0 c0), (.int .i64 x1)] K = S111 a0 n0 c0 x1 K := by kernel_rfl
theorem calls111 (a0 : Option Addr) (n0 c0 : Nat) (x1 : Int) {K : Value → WP} {w : World} (h : S111 a0 n0 c0 x1 K w) : Calls Tryz.prog 111 #[(.slice a0 n0 c0), (.int .i64 x1)] w (Ret K) := callsR_of_bodyW mixed Tryz.func111 (of_decide_eq_true (by kernel_rfl)) (by rw [eq111]; exact h)

/-- slices.Backward[[]shadowbook/api.Write,shadowbook/api.Write] -/
def an117 : Ann := (.seq .nil (.seq .nil .nil))
def S117 (a0 : Option Addr) (n0 c0 : Nat) (K : Value → WP) : WP := 
  newW (.cells #[(.slice a0 n0 c0)] 65) fun (r1 : Nat) => K (.func (.func 126) #[] #[(.pointer (some (⟨r1, 0, none⟩ : Addr)))])
theorem eq117 (a0 : Option Addr) (n0 c0 : Nat) (K : Value → WP) : bodyW Tryz.prog Tryz.f117 an117 false [(.slice a0 n0 c0)] K = S117 a0 n0 c0 K := by kernel_rfl
theorem calls117 (a0 : Option Addr) (n0 c0 : Nat) {K : Value → WP} {w : World} (h : S117 a0 n0 c0 K w) : Calls Tryz.prog 117 #[(.slice a0 n0 c0)] w (Ret K) := callsR_of_bodyW mixed Tryz.func117 (of_decide_eq_true (by kernel_rfl)) (by rw [eq117]; exact h)

/-- shadowbook/crc.Of -/
def an118 : Ann := (.seq .nil (.seq .nil .nil))
def S118 (a0 : Option Addr) (n0 c0 : Nat) (K : Value → WP) : WP := 
  callW Tryz.prog 128 [] (.one (.arr 256)) fun (u1 : Array Value) =>
  callW Tryz.prog 127 [(.agg u1), (.slice a0 n0 c0)] (.one (.one (.int .u32))) fun (u2 : Int) => K (.int .u32 u2)
theorem eq118 (a0 : Option Addr) (n0 c0 : Nat) (K : Value → WP) : bodyW Tryz.prog Tryz.f118 an118 false [(.slice a0 n0 c0)] K = S118 a0 n0 c0 K := by kernel_rfl
theorem calls118 (a0 : Option Addr) (n0 c0 : Nat) {K : Value → WP} {w : World} (h : S118 a0 n0 c0 K w) : Calls Tryz.prog 118 #[(.slice a0 n0 c0)] w (Ret K) := callsR_of_bodyW mixed Tryz.func118 (of_decide_eq_true (by kernel_rfl)) (by rw [eq118]; exact h)

/-- slices.Chunk[[]byte,byte]$1 -/
def an119 : Ann := (.seq .nil (.block (.loop [(4, .sh (.one (.int .i64)))] [0, 1, 2, 1000000] (.seq (.seq .nil (.cond .nil .nil)) (.seq (.block (.seq .nil (.seq .nil (.cond .nil .nil)))) .nil)))))
def S119 (x0 : Value) (a1 : Addr) (a2 : Addr) (K : Value → WP) : WP := 
  loopW (Int × Unit) ((0 : Int), ()) fun (y2 : Int × Unit) (I1 : (Int × Unit) → WP) =>
  ldW .slc a1 fun (u3 : (Option Addr × Nat × Nat)) =>
  splitW (decide (y2.1 < ((u3.2.1 : Nat) : Int))) (drewW <|
  ldW (.int .i64) a2 fun (u4 : Int) =>
  ldW .slc a1 fun (u5 : (Option Addr × Nat × Nat)) =>
  guardW (0 ≤ y2.1 ∧ y2.1 ≤ ((u5.2.1 : Nat) : Int)) <|
  ldW .slc a1 fun (u6 : (Option Addr × Nat × Nat)) =>
  guardW (0 ≤ y2.1 ∧ y2.1 ≤ (IntKind.wrap .i64 (y2.1 + (if (((u5.2.1 - (Int.toNat y2.1)) : Nat) : Int) < u4 then (((u5.2.1 - (Int.toNat y2.1)) : Nat) : Int) else u4))) ∧ (IntKind.wrap .i64 (y2.1 + (if (((u5.2.1 - (Int.toNat y2.1)) : Nat) : Int) < u4 then (((u5.2.1 - (Int.toNat y2.1)) : Nat) : Int) else u4))) ≤ (IntKind.wrap .i64 (y2.1 + (if (((u5.2.1 - (Int.toNat y2.1)) : Nat) : Int) < u4 then (((u5.2.1 - (Int.toNat y2.1)) : Nat) : Int) else u4))) ∧ (IntKind.wrap .i64 (y2.1 + (if (((u5.2.1 - (Int.toNat y2.1)) : Nat) : Int) < u4 then (((u5.2.1 - (Int.toNat y2.1)) : Nat) : Int) else u4))) ≤ ((u6.2.2 : Nat) : Int)) <|
  callVW Tryz.prog x0 [(.slice (cutAddr u6.1 (Int.toNat y2.1) (Int.toNat (IntKind.wrap .i64 (y2.1 + (if (((u5.2.1 - (Int.toNat y2.1)) : Nat) : Int) < u4 then (((u5.2.1 - (Int.toNat y2.1)) : Nat) : Int) else u4)))) 1) ((Int.toNat (IntKind.wrap .i64 (y2.1 + (if (((u5.2.1 - (Int.toNat y2.1)) : Nat) : Int) < u4 then (((u5.2.1 - (Int.toNat y2.1)) : Nat) : Int) else u4)))) - (Int.toNat y2.1)) ((Int.toNat (IntKind.wrap .i64 (y2.1 + (if (((u5.2.1 - (Int.toNat y2.1)) : Nat) : Int) < u4 then (((u5.2.1 - (Int.toNat y2.1)) : Nat) : Int) else u4)))) - (Int.toNat y2.1)))] (.one (.one .bool)) fun (u7 : Bool) =>
  splitW (!u7) (K (.tuple #[])) <|
  ldW (.int .i64) a2 fun (u8 : Int) => I1 ((IntKind.wrap .i64 (y2.1 + u8)), ())) <| K (.tuple #[])
theorem eq119 (x0 : Value) (a1 : Addr) (a2 : Addr) (K : Value → WP) : bodyW Tryz.prog Tryz.f119 an119 false [x0, (.pointer (some a1)), (.pointer (some a2))] K = S119 x0 a1 a2 K := by kernel_rfl
theorem calls119 (x0 : Value) (a1 : Addr) (a2 : Addr) {K : Value → WP} {w : World} (h : S119 x0 a1 a2 K w) : Calls Tryz.prog 119 #[x0, (.pointer (some a1)), (.pointer (some a2))] w (Ret K) := callsR_of_bodyW mixed Tryz.func119 (of_decide_eq_true (by kernel_rfl)) (by rw [eq119]; exact h)

/-- slices.Backward[[]byte,byte] -/
def an120 : Ann := (.seq .nil (.seq .nil .nil))
def S120 (a0 : Option Addr) (n0 c0 : Nat) (K : Value → WP) : WP := 
  newW (.cells #[(.slice a0 n0 c0)] 62) fun (r1 : Nat) => K (.func (.func 129) #[] #[(.pointer (some (⟨r1, 0, none⟩ : Addr)))])
theorem eq120 (a0 : Option Addr) (n0 c0 : Nat) (K : Value → WP) : bodyW Tryz.prog Tryz.f120 an120 false [(.slice a0 n0 c0)] K = S120 a0 n0 c0 K := by kernel_rfl
theorem calls120 (a0 : Option Addr) (n0 c0 : Nat) {K : Value → WP} {w : World} (h : S120 a0 n0 c0 K w) : Calls Tryz.prog 120 #[(.slice a0 n0 c0)] w (Ret K) := callsR_of_bodyW mixed Tryz.func120 (of_decide_eq_true (by kernel_rfl)) (by rw [eq120]; exact h)

/-- slices.Clone[[]byte,byte] -/
def an121 : Ann := (.seq .nil (.seq (.seq .nil (.cond (.seq .nil .nil) .nil)) (.seq .nil .nil)))
def S121 (a0 : Option Addr) (n0 c0 : Nat) (K : Value → WP) : WP := 
  splitW (Option.isNone a0) (K (.slice none 0 0)) <|
  newW (.cells #[] 5) fun (r1 : Nat) =>
  runW Tryz.prog (Builtin.append_ #[62, 62] 62 #[(.slice (some (⟨r1, 0, none⟩ : Addr)) 0 0), (.slice a0 n0 c0)]) .slc fun (u2 : (Option Addr × Nat × Nat)) => K (.slice u2.1 u2.2.1 u2.2.2)
theorem eq121 (a0 : Option Addr) (n0 c0 : Nat) (K : Value → WP) : bodyW Tryz.prog Tryz.f121 an121 false [(.slice a0 n0 c0)] K = S121 a0 n0 c0 K := by kernel_rfl
theorem calls121 (a0 : Option Addr) (n0 c0 : Nat) {K : Value → WP} {w : World} (h : S121 a0 n0 c0 K w) : Calls Tryz.prog 121 #[(.slice a0 n0 c0)] w (Ret K) := callsR_of_bodyW mixed Tryz.func121 (of_decide_eq_true (by kernel_rfl)) (by rw [eq121]; exact h)

/-- (*shadowbook/octet.Reader).take -/
def an122 : Ann := (.seq .nil (.seq (.seq .nil (.cond (.seq .nil .nil) .nil)) (.seq .nil (.seq .nil (.seq .nil .nil)))))
def S122 (x0 : Option Addr) (x1 : Int) (K : Value → WP) : WP := 
  ptrW x0 fun (p1 : Addr) =>
  ldW .slc p1 fun (u2 : (Option Addr × Nat × Nat)) =>
  splitW (decide (((u2.2.1 : Nat) : Int) < x1)) (K (.tuple #[(.slice none 0 0), (.int .i64 (7 : Int))])) <|
  ptrW x0 fun (p3 : Addr) =>
  ldW .slc p3 fun (u4 : (Option Addr × Nat × Nat)) =>
  guardW (0 ≤ x1 ∧ x1 ≤ x1 ∧ x1 ≤ ((u4.2.2 : Nat) : Int)) <|
  ptrW x0 fun (p5 : Addr) =>
  ldW .slc p5 fun (u6 : (Option Addr × Nat × Nat)) =>
  guardW (0 ≤ x1 ∧ x1 ≤ ((u6.2.1 : Nat) : Int)) <|
  ptrW x0 fun (p7 : Addr) =>
  stW p7 (.slice (cutAddr u6.1 (Int.toNat x1) u6.2.2 1) (u6.2.1 - (Int.toNat x1)) (u6.2.2 - (Int.toNat x1))) <| K (.tuple #[(.slice (cutAddr u4.1 0 (Int.toNat x1) 1) (Int.toNat x1) (Int.toNat x1)), (.int .i64 (0 : Int))])
theorem eq122 (x0 : Option Addr) (x1 : Int) (K : Value → WP) : bodyW Tryz.prog Tryz.f122 an122 false [(.pointer x0), (.int .i64 x1)] K = S122 x0 x1 K := by kernel_rfl
theorem calls122 (x0 : Option Addr) (x1 : Int) {K : Value → WP} {w : World} (h : S122 x0 x1 K w) : Calls Tryz.prog 122 #[(.pointer x0), (.int .i64 x1)] w (Ret K) := callsR_of_bodyW mixed Tryz.func122 (of_decide_eq_true (by kernel_rfl)) (by rw [eq122]; exact h)

/-- slices.Chunk[[]uint16,uint16]$1 -/
def an123 : Ann := (.seq .nil (.block (.loop [(4, .sh (.one (.int .i64)))] [0, 1, 2, 1000000] (.seq (.seq .nil (.cond .nil .nil)) (.seq (.block (.seq .nil (.seq .nil (.cond .nil .nil)))) .nil)))))
def S123 (x0 : Value) (a1 : Addr) (a2 : Addr) (K : Value → WP) : WP := 
  loopW (Int × Unit) ((0 : Int), ()) fun (y2 : Int × Unit) (I1 : (Int × Unit) → WP) =>
  ldW .slc a1 fun (u3 : (Option Addr × Nat × Nat)) =>
  splitW (decide (y2.1 < ((u3.2.1 : Nat) : Int))) (drewW <|
  ldW (.int .i64) a2 fun (u4 : Int) =>
  ldW .slc a1 fun (u5 : (Option Addr × Nat × Nat)) =>
  guardW (0 ≤ y2.1 ∧ y2.1 ≤ ((u5.2.1 : Nat) : Int)) <|
  ldW .slc a1 fun (u6 : (Option Addr × Nat × Nat)) =>
  guardW (0 ≤ y2.1 ∧ y2.1 ≤ (IntKind.wrap .i64 (y2.1 + (if (((u5.2.1 - (Int.toNat y2.1)) : Nat) : Int) < u4 then (((u5.2.1 - (Int.toNat y2.1)) : Nat) : Int) else u4))) ∧ (IntKind.wrap .i64 (y2.1 + (if (((u5.2.1 - (Int.toNat y2.1)) : Nat) : Int) < u4 then (((u5.2.1 - (Int.toNat y2.1)) : Nat) : Int) else u4))) ≤ (IntKind.wrap .i64 (y2.1 + (if (((u5.2.1 - (Int.toNat y2.1)) : Nat) : Int) < u4 then (((u5.2.1 - (Int.toNat y2.1)) : Nat) : Int) else u4))) ∧ (IntKind.wrap .i64 (y2.1 + (if (((u5.2.1 - (Int.toNat y2.1)) : Nat) : Int) < u4 then (((u5.2.1 - (Int.toNat y2.1)) : Nat) : Int) else u4))) ≤ ((u6.2.2 : Nat) : Int)) <|
  callVW Tryz.prog x0 [(.slice (cutAddr u6.1 (Int.toNat y2.1) (Int.toNat (IntKind.wrap .i64 (y2.1 + (if (((u5.2.1 - (Int.toNat y2.1)) : Nat) : Int) < u4 then (((u5.2.1 - (Int.toNat y2.1)) : Nat) : Int) else u4)))) 1) ((Int.toNat (IntKind.wrap .i64 (y2.1 + (if (((u5.2.1 - (Int.toNat y2.1)) : Nat) : Int) < u4 then (((u5.2.1 - (Int.toNat y2.1)) : Nat) : Int) else u4)))) - (Int.toNat y2.1)) ((Int.toNat (IntKind.wrap .i64 (y2.1 + (if (((u5.2.1 - (Int.toNat y2.1)) : Nat) : Int) < u4 then (((u5.2.1 - (Int.toNat y2.1)) : Nat) : Int) else u4)))) - (Int.toNat y2.1)))] (.one (.one .bool)) fun (u7 : Bool) =>
  splitW (!u7) (K (.tuple #[])) <|
  ldW (.int .i64) a2 fun (u8 : Int) => I1 ((IntKind.wrap .i64 (y2.1 + u8)), ())) <| K (.tuple #[])
theorem eq123 (x0 : Value) (a1 : Addr) (a2 : Addr) (K : Value → WP) : bodyW Tryz.prog Tryz.f123 an123 false [x0, (.pointer (some a1)), (.pointer (some a2))] K = S123 x0 a1 a2 K := by kernel_rfl
theorem calls123 (x0 : Value) (a1 : Addr) (a2 : Addr) {K : Value → WP} {w : World} (h : S123 x0 a1 a2 K w) : Calls Tryz.prog 123 #[x0, (.pointer (some a1)), (.pointer (some a2))] w (Ret K) := callsR_of_bodyW mixed Tryz.func123 (of_decide_eq_true (by kernel_rfl)) (by rw [eq123]; exact h)

/-- slices.Backward[[]shadowbook/api.Write,shadowbook/api.Write]$1 -/
def an126 : Ann := (.seq .nil (.block (.loop [(3, .sh (.one (.int .i64)))] [0, 1, 1000000] (.seq (.seq .nil (.cond .nil .nil)) (.seq (.block (.seq .nil (.cond .nil .nil))) .nil)))))
def S126 (x0 : Value) (a1 : Addr) (K : Value → WP) : WP := 
  ldW .slc a1 fun (u1 : (Option Addr × Nat × Nat)) =>
  loopW (Int × Unit) ((IntKind.wrap .i64 (((u1.2.1 : Nat) : Int) - (1 : Int))), ()) fun (y3 : Int × Unit) (I2 : (Int × Unit) → WP) =>
  splitW (decide (y3.1 ≥ (0 : Int))) (ldW .slc a1 fun (u4 : (Option Addr × Nat × Nat)) =>
  guardW (0 ≤ y3.1 ∧ y3.1 < ((u4.2.1 : Nat) : Int)) <|
  ptrW u4.1 fun (p5 : Addr) =>
  ldAW [(.int .i64), .str] (p5.add (Int.toNat y3.1 * 2)) fun (u6 : (Int × ByteArray × Unit)) =>
  callVW Tryz.prog x0 [(.int .i64 y3.1), (.agg #[(.int .i64 u6.1), (.string u6.2.1)])] (.one (.one .bool)) fun (u7 : Bool) =>
  splitW (!u7) (K (.tuple #[])) <| I2 ((IntKind.wrap .i64 (y3.1 - (1 : Int))), ())) <| K (.tuple #[])
theorem eq126 (x0 : Value) (a1 : Addr) (K : Value → WP) : bodyW Tryz.prog Tryz.f126 an126 false [x0, (.pointer (some a1))] K = S126 x0 a1 K := by kernel_rfl
theorem calls126 (x0 : Value) (a1 : Addr) {K : Value → WP} {w : World} (h : S126 x0 a1 K w) : Calls Tryz.prog 126 #[x0, (.pointer (some a1))] w (Ret K) := callsR_of_bodyW mixed Tryz.func126 (of_decide_eq_true (by kernel_rfl)) (by rw [eq126]; exact h)

/-- shadowbook/crc.Sum -/
def an127 : Ann := (.seq .nil (.seq .nil .nil))
def S127 (x0 : Array Value) (a1 : Option Addr) (n1 c1 : Nat) (K : Value → WP) : WP := 
  newW (.cells x0 198) fun (r1 : Nat) =>
  ldRW 256 (⟨r1, 0, none⟩ : Addr) fun (u2 : Array Value) =>
  callW Tryz.prog 130 [(.agg u2), (.int .u32 (4294967295 : Int)), (.slice a1 n1 c1)] (.one (.one (.int .u32))) fun (u3 : Int) => K (.int .u32 (inot .u32 u3))
theorem eq127 (x0 : Array Value) (a1 : Option Addr) (n1 c1 : Nat) (K : Value → WP) : bodyW Tryz.prog Tryz.f127 an127 false [(.agg x0), (.slice a1 n1 c1)] K = S127 x0 a1 n1 c1 K := by kernel_rfl
theorem calls127 (x0 : Array Value) (a1 : Option Addr) (n1 c1 : Nat) {K : Value → WP} {w : World} (h : S127 x0 a1 n1 c1 K w) : Calls Tryz.prog 127 #[(.agg x0), (.slice a1 n1 c1)] w (Ret K) := callsR_of_bodyW mixed Tryz.func127 (of_decide_eq_true (by kernel_rfl)) (by rw [eq127]; exact h)

/-- shadowbook/crc.Table -/
def an128 : Ann := (.seq .nil (.seq (.seq .nil (.block (.loop [(3, .sh (.one (.int .i64)))] [0, 1000000] (.seq .nil (.seq (.cond .nil .nil) (.seq (.block (.seq .nil (.seq .nil (.seq (.seq .nil (.block (.loop [(2, .sh (.one (.int .u32))), (8, .sh (.one (.int .i64)))] [0, 1, 3, 1000000] (.seq .nil (.seq (.cond .nil .nil) (.seq (.block .nil) .nil)))))) .nil)))) .nil)))))) (.seq .nil .nil)))
def S128  (K : Value → WP) : WP := 
  newW (.cells (zeroC Tryz.prog 198) 198) fun (r1 : Nat) =>
  loopW (Int × Unit) ((0 : Int), ()) fun (y3 : Int × Unit) (I2 : (Int × Unit) → WP) =>
  splitW (decide (y3.1 < (256 : Int))) (loopW (Int × Int × Unit) ((IntKind.wrap .u32 y3.1), (0 : Int), ()) fun (y5 : Int × Int × Unit) (I4 : (Int × Int × Unit) → WP) =>
  splitW (decide (y5.2.1 < (8 : Int))) (I4 ((ixor .u32 (ishr .u32 y5.1 (1 : Int)) (IntKind.wrap .u32 ((2197175160 : Int) * (iand .u32 y5.1 (1 : Int))))), (IntKind.wrap .i64 (y5.2.1 + (1 : Int))), ())) <|
  guardW (0 ≤ y3.1 ∧ y3.1 < ((256 : Nat) : Int)) <|
  stW ((⟨r1, 0, none⟩ : Addr).add (Int.toNat y3.1 * 1)) (.int .u32 y5.1) <| I2 ((IntKind.wrap .i64 (y3.1 + (1 : Int))), ())) <|
  ldRW 256 (⟨r1, 0, none⟩ : Addr) fun (u6 : Array Value) =>
  guardW (u6.size = 256) <|
  stAW (⟨r1, 0, none⟩ : Addr) u6.toList <|
  ldRW 256 (⟨r1, 0, none⟩ : Addr) fun (u7 : Array Value) => K (.agg u7)
theorem eq128  (K : Value → WP) : bodyW Tryz.prog Tryz.f128 an128 false [] K = S128  K := by kernel_rfl
theorem calls128  {K : Value → WP} {w : World} (h : S128  K w) : Calls Tryz.prog 128 #[] w (Ret K) := callsR_of_bodyW mixed Tryz.func128 (of_decide_eq_true (by kernel_rfl)) (by rw [eq128]; exact h)

/-- slices.Backward[[]byte,byte]$1 -/
def an129 : Ann := (.seq .nil (.block (.loop [(3, .sh (.one (.int .i64)))] [0, 1, 1000000] (.seq (.seq .nil (.cond .nil .nil)) (.seq (.block (.seq .nil (.cond .nil .nil))) .nil)))))
def S129 (x0 : Value) (a1 : Addr) (K : Value → WP) : WP := 
  ldW .slc a1 fun (u1 : (Option Addr × Nat × Nat)) =>
  loopW (Int × Unit) ((IntKind.wrap .i64 (((u1.2.1 : Nat) : Int) - (1 : Int))), ()) fun (y3 : Int × Unit) (I2 : (Int × Unit) → WP) =>
  splitW (decide (y3.1 ≥ (0 : Int))) (ldW .slc a1 fun (u4 : (Option Addr × Nat × Nat)) =>
  guardW (0 ≤ y3.1 ∧ y3.1 < ((u4.2.1 : Nat) : Int)) <|
  ptrW u4.1 fun (p5 : Addr) =>
  ldW (.int .u8) (p5.add (Int.toNat y3.1 * 1)) fun (u6 : Int) =>
  callVW Tryz.prog x0 [(.int .i64 y3.1), (.int .u8 u6)] (.one (.one .bool)) fun (u7 : Bool) =>
  splitW (!u7) (K (.tuple #[])) <| I2 ((IntKind.wrap .i64 (y3.1 - (1 : Int))), ())) <| K (.tuple #[])
theorem eq129 (x0 : Value) (a1 : Addr) (K : Value → WP) : bodyW Tryz.prog Tryz.f129 an129 false [x0, (.pointer (some a1))] K = S129 x0 a1 K := by kernel_rfl
theorem calls129 (x0 : Value) (a1 : Addr) {K : Value → WP} {w : World} (h : S129 x0 a1 K w) : Calls Tryz.prog 129 #[x0, (.pointer (some a1))] w (Ret K) := callsR_of_bodyW mixed Tryz.func129 (of_decide_eq_true (by kernel_rfl)) (by rw [eq129]; exact h)

/-- shadowbook/crc.Update -/
def an130 : Ann := (.seq .nil (.seq (.seq .nil (.block (.loop [(1, .sh (.one (.int .u32))), (11, .sh (.one (.int .i64)))] [3, 9, 10, 1000000] (.seq .nil (.seq (.cond .nil .nil) (.seq (.block (.seq .nil .nil)) .nil)))))) (.seq .nil .nil)))
def S130 (x0 : Array Value) (x1 : Int) (a2 : Option Addr) (n2 c2 : Nat) (K : Value → WP) : WP := 
  newW (.cells x0 198) fun (r1 : Nat) =>
  loopW (Int × Int × Unit) (x1, (0 : Int), ()) fun (y3 : Int × Int × Unit) (I2 : (Int × Int × Unit) → WP) =>
  splitW (decide (y3.2.1 < ((n2 : Nat) : Int))) (guardW (0 ≤ y3.2.1 ∧ y3.2.1 < ((n2 : Nat) : Int)) <|
  ptrW a2 fun (p4 : Addr) =>
  ldW (.int .u8) (p4.add (Int.toNat y3.2.1 * 1)) fun (u5 : Int) =>
  guardW (0 ≤ (ixor .u8 (IntKind.wrap .u8 y3.1) u5) ∧ (ixor .u8 (IntKind.wrap .u8 y3.1) u5) < ((256 : Nat) : Int)) <|
  ldW (.int .u32) ((⟨r1, 0, none⟩ : Addr).add (Int.toNat (ixor .u8 (IntKind.wrap .u8 y3.1) u5) * 1)) fun (u6 : Int) => I2 ((ixor .u32 (ishr .u32 y3.1 (8 : Int)) u6), (IntKind.wrap .i64 (y3.2.1 + (1 : Int))), ())) <| K (.int .u32 y3.1)
theorem eq130 (x0 : Array Value) (x1 : Int) (a2 : Option Addr) (n2 c2 : Nat) (K : Value → WP) : bodyW Tryz.prog Tryz.f130 an130 false [(.agg x0), (.int .u32 x1), (.slice a2 n2 c2)] K = S130 x0 x1 a2 n2 c2 K := by kernel_rfl
theorem calls130 (x0 : Array Value) (x1 : Int) (a2 : Option Addr) (n2 c2 : Nat) {K : Value → WP} {w : World} (h : S130 x0 x1 a2 n2 c2 K w) : Calls Tryz.prog 130 #[(.agg x0), (.int .u32 x1), (.slice a2 n2 c2)] w (Ret K) := callsR_of_bodyW mixed Tryz.func130 (of_decide_eq_true (by kernel_rfl)) (by rw [eq130]; exact h)

end Go.Proofs.YtjdmggaeagnolaaGreat.V
/- Geometries, rooms: contracts. -/
set_option linter.unusedVariables false
set_option linter.unusedSimpArgs false
namespace Go.Proofs.YtjdmggaeagnolaaGreat.V
open Go Go.Proofs Go.RowKit
/-- A geometry that may be. -/
def geoOK (size blocks : Int) : Bool := decide (128 ≤ size ∧ size ≤ 4096 ∧ Int.tmod size 64 = 0 ∧ 8 ≤ blocks ∧ blocks ≤ 4096)
theorem devcheck_calls (w : World) (size blocks : Int) : Calls Tryz.prog 45 #[.agg #[.int .i64 size, .int .i64 blocks]] w (Ret fun v w' => v = .int .i64 (if geoOK size blocks then 0 else 2) ∧ Ext w w') := by
  apply calls45
  unfold S45
  apply newW_i
  have hb : Blk (w.alloc (.cells #[(.int .i64 size), (.int .i64 blocks)] 28)) w.heap.size [(.int .i64 size), (.int .i64 blocks)] 28 := Blk.new w _ _
  have he : Ext w (w.alloc (.cells #[(.int .i64 size), (.int .i64 blocks)] 28)) := (Ext.refl w).alloc _
  generalize w.alloc (.cells #[(.int .i64 size), (.int .i64 blocks)] 28) = w1 at hb he ⊢
  have bad : ¬ (128 ≤ size ∧ size ≤ 4096 ∧ Int.tmod size 64 = 0 ∧ 8 ≤ blocks ∧ blocks ≤ 4096) → (Value.int .i64 2 = .int .i64 (if geoOK size blocks then 0 else 2) ∧ Ext w w1) := fun h => by
    unfold geoOK
    rw [decide_eq_false h]
    exact ⟨rfl, he⟩
  refine ldW_blk hb (by rfl) ?_
  refine splitW_i (fun h => bad (by have := of_decide_eq_true h; omega)) (fun h1 => ?_)
  refine ldW_blk hb (by rfl) ?_
  refine splitW_i (fun h => bad (by have := of_decide_eq_true h; omega)) (fun h2 => ?_)
  refine ldW_blk hb (by rfl) ?_
  refine splitW_i (fun h => bad (by rw [bne_iff_ne] at h; exact fun hh => h hh.2.2.1)) (fun h3 => ?_)
  refine ld_blk (o := 1) hb (by rfl) ?_
  refine splitW_i (fun h => bad (by have := of_decide_eq_true h; omega)) (fun h4 => ?_)
  refine ld_blk (o := 1) hb (by rfl) ?_
  refine splitW_i (fun h => bad (by have := of_decide_eq_true h; omega)) (fun h5 => ?_)
  have h1 := of_decide_eq_false h1
  have h2 := of_decide_eq_false h2
  have h3 : Int.tmod size 64 = 0 := by simpa using h3
  have h4 := of_decide_eq_false h4
  have h5 := of_decide_eq_false h5
  unfold geoOK
  rw [decide_eq_true ⟨by omega, by omega, h3, by omega, by omega⟩]
  exact ⟨rfl, he⟩
/-- Room of a frame in a block of this size. -/
def roomOf (size : Int) : Int := if geoOK size 8 then size - 16 else 0
theorem room_calls (w : World) (size : Int) : Calls Tryz.prog 64 #[.int .i64 size] w (Ret fun v w' => v = .int .i64 (roomOf size) ∧ Ext w w') := by
  apply calls64
  unfold S64 roomOf
  refine callW_of (devcheck_calls w size 8) ?_
  rintro _ w1 ⟨rfl, he⟩
  refine ⟨_, rfl, ?_⟩
  cases hok : geoOK size 8 with
  | false => exact splitW_t (by rfl) ⟨rfl, he⟩
  | true =>
    refine splitW_f (by rfl) ⟨?_, he⟩
    unfold geoOK at hok
    have hok := of_decide_eq_true hok
    rw [wrap_i64 (x := size - 12) (by omega) (by omega), wrap_i64 (by omega) (by omega), if_pos rfl]
    congr 1
    omega
def lightGeo (size blocks : Int) : Bool := if size < 128 ∨ size > 4096 ∨ blocks < 8 ∨ blocks > 4096 then true else decide (size ≤ 512 ∧ blocks ≤ 40)
theorem lightgeo_calls (w : World) (size blocks : Int) : Calls Tryz.prog 28 #[.agg #[.int .i64 size, .int .i64 blocks]] w (Ret fun v w' => v = .bool (lightGeo size blocks) ∧ Ext w w') := by
  apply calls28
  unfold S28 lightGeo
  apply newW_i
  have hb : Blk (w.alloc (.cells #[(.int .i64 size), (.int .i64 blocks)] 28)) w.heap.size [(.int .i64 size), (.int .i64 blocks)] 28 := Blk.new w _ _
  have he : Ext w (w.alloc (.cells #[(.int .i64 size), (.int .i64 blocks)] 28)) := (Ext.refl w).alloc _
  generalize w.alloc (.cells #[(.int .i64 size), (.int .i64 blocks)] 28) = w1 at hb he ⊢
  refine ldW_blk hb (by rfl) ?_
  refine splitW_i (fun h => ?_) (fun h1 => ?_)
  · rw [if_pos (.inl (of_decide_eq_true h))]; exact ⟨rfl, he⟩
  refine ldW_blk hb (by rfl) ?_
  refine splitW_i (fun h => ?_) (fun h2 => ?_)
  · rw [if_pos (.inr (.inl (of_decide_eq_true h)))]; exact ⟨rfl, he⟩
  refine ld_blk (o := 1) hb (by rfl) ?_
  refine splitW_i (fun h => ?_) (fun h3 => ?_)
  · rw [if_pos (.inr (.inr (.inl (of_decide_eq_true h))))]; exact ⟨rfl, he⟩
  refine ld_blk (o := 1) hb (by rfl) ?_
  refine splitW_i (fun h => ?_) (fun h4 => ?_)
  · rw [if_pos (.inr (.inr (.inr (of_decide_eq_true h))))]; exact ⟨rfl, he⟩
  have h1 := of_decide_eq_false h1
  have h2 := of_decide_eq_false h2
  have h3 := of_decide_eq_false h3
  have h4 := of_decide_eq_false h4
  rw [if_neg (by omega)]
  refine ldW_blk hb (by rfl) ?_
  refine splitW_i (fun h => ?_) (fun h5 => ?_)
  · have h := of_decide_eq_true h
    refine ld_blk (o := 1) hb (by rfl) ?_
    refine ⟨?_, he⟩
    congr 1
    exact decide_eq_decide.2 (by omega)
  · have h5 := of_decide_eq_false h5
    refine ⟨?_, he⟩
    congr 1
    symm
    rw [decide_eq_false_iff_not]
    omega
end Go.Proofs.YtjdmggaeagnolaaGreat.V
/- Iterators: slices.Chunk's and slices.Backward's inner functions, told of any program. -/
set_option linter.unusedVariables false
set_option linter.unusedSimpArgs false
namespace Go.Proofs.YtjdmggaeagnolaaGreat.V
open Go
/-- What slices.Chunk$1 does. -/
def ChunkW (P : Program) (z : Nat) (x0 : Value) (a1 : Addr) (a2 : Addr) (K : Value → WP) : WP :=
  loopW (Int × Unit) ((0 : Int), ()) fun (y2 : Int × Unit) (I1 : (Int × Unit) → WP) =>
  ldW .slc a1 fun (u3 : (Option Addr × Nat × Nat)) =>
  splitW (decide (y2.1 < ((u3.2.1 : Nat) : Int))) (drewW <|
  ldW (.int .i64) a2 fun (u4 : Int) =>
  ldW .slc a1 fun (u5 : (Option Addr × Nat × Nat)) =>
  guardW (0 ≤ y2.1 ∧ y2.1 ≤ ((u5.2.1 : Nat) : Int)) <|
  ldW .slc a1 fun (u6 : (Option Addr × Nat × Nat)) =>
  guardW (0 ≤ y2.1 ∧ y2.1 ≤ (IntKind.wrap .i64 (y2.1 + (if (((u5.2.1 - (Int.toNat y2.1)) : Nat) : Int) < u4 then (((u5.2.1 - (Int.toNat y2.1)) : Nat) : Int) else u4))) ∧ (IntKind.wrap .i64 (y2.1 + (if (((u5.2.1 - (Int.toNat y2.1)) : Nat) : Int) < u4 then (((u5.2.1 - (Int.toNat y2.1)) : Nat) : Int) else u4))) ≤ (IntKind.wrap .i64 (y2.1 + (if (((u5.2.1 - (Int.toNat y2.1)) : Nat) : Int) < u4 then (((u5.2.1 - (Int.toNat y2.1)) : Nat) : Int) else u4))) ∧ (IntKind.wrap .i64 (y2.1 + (if (((u5.2.1 - (Int.toNat y2.1)) : Nat) : Int) < u4 then (((u5.2.1 - (Int.toNat y2.1)) : Nat) : Int) else u4))) ≤ ((u6.2.2 : Nat) : Int)) <|
  callVW P x0 [(.slice (cutAddr u6.1 (Int.toNat y2.1) (Int.toNat (IntKind.wrap .i64 (y2.1 + (if (((u5.2.1 - (Int.toNat y2.1)) : Nat) : Int) < u4 then (((u5.2.1 - (Int.toNat y2.1)) : Nat) : Int) else u4)))) z) ((Int.toNat (IntKind.wrap .i64 (y2.1 + (if (((u5.2.1 - (Int.toNat y2.1)) : Nat) : Int) < u4 then (((u5.2.1 - (Int.toNat y2.1)) : Nat) : Int) else u4)))) - (Int.toNat y2.1)) ((Int.toNat (IntKind.wrap .i64 (y2.1 + (if (((u5.2.1 - (Int.toNat y2.1)) : Nat) : Int) < u4 then (((u5.2.1 - (Int.toNat y2.1)) : Nat) : Int) else u4)))) - (Int.toNat y2.1)))] (.one (.one .bool)) fun (u7 : Bool) =>
  splitW (!u7) (K (.tuple #[])) <|
  ldW (.int .i64) a2 fun (u8 : Int) => I1 ((IntKind.wrap .i64 (y2.1 + u8)), ())) <| K (.tuple #[])
def cutsN (n k : Nat) : Nat := (n + k - 1) / k
theorem cutsN_lt {n k i : Nat} (hk : 1 ≤ k) : i < cutsN n k ↔ i * k < n := by
  unfold cutsN
  rw [Nat.lt_iff_add_one_le, Nat.le_div_iff_mul_le (by omega), Nat.succ_mul]
  omega
/-- The cuts of a slice, of k each. -/
def cutsV (z : Nat) (A : Option Addr) (n k : Nat) : List (List Value) := (List.range (cutsN n k)).map fun i => [.slice (cutAddr A (i * k) (i * k + min k (n - i * k)) z) (min k (n - i * k)) (min k (n - i * k))]
theorem cutsV_length (z : Nat) (A : Option Addr) (n k : Nat) : (cutsV z A n k).length = cutsN n k := by simp [cutsV]
theorem chunk_walk {P : Program} {z r1 r2 l n c k : Nat} {A : Option Addr} {t1 t2 : TypeId} {J : Nat → WP} {w : World} (hk : 1 ≤ k) (hnc : n ≤ c) (hnk : n + k ≤ 9223372036854775807) (h0 : J 0 w)
    (hR : ∀ i w', J i w' → Blk w' r1 [.slice A n c] t1 ∧ Blk w' r2 [.int .i64 (k : Int)] t2) (hd : ∀ i w', J i w' → J i w'.drew)
    (hY : ∀ i w' (h : i < (cutsV z A n k).length), J i w' → YieldAt P l (cutsV z A n k)[i] w' fun v w'' => v = .bool true ∧ J (i + 1) w'') :
    ChunkW P z (.func (.yield l) #[] #[]) ⟨r1, 0, none⟩ ⟨r2, 0, none⟩ (fun _ w' => J (cutsV z A n k).length w') w := by
  unfold ChunkW
  rw [cutsV_length]
  refine loopW_i (fun y w' => ∃ i : Nat, i ≤ cutsN n k ∧ y = (((i * k : Nat) : Int), ()) ∧ J i w') (fun y => ((n : Int) + k - y.1).toNat) ⟨0, by omega, by simp, h0⟩ ?_
  rintro _ w' ⟨i, hi, rfl, hJ⟩
  dsimp only
  obtain ⟨h1, h2⟩ := hR i w' hJ
  refine ldW_blk (x := (A, n, c)) h1 (by rfl) ?_
  dsimp only
  by_cases hlt : i * k < n
  · refine splitW_t (decide_eq_true (by omega)) ?_
    have hJ' := hd i w' hJ
    obtain ⟨h1, h2⟩ := hR i _ hJ'
    show (ldW _ _ _) w'.drew
    generalize w'.drew = w1 at hJ' h1 h2 ⊢
    refine ldW_blk (x := (k : Int)) h2 (by rfl) ?_
    refine ldW_blk (x := (A, n, c)) h1 (by rfl) ?_
    dsimp only
    refine ⟨⟨by omega, by omega⟩, ?_⟩
    refine ldW_blk (x := (A, n, c)) h1 (by rfl) ?_
    dsimp only
    have e : IntKind.wrap .i64 (((i * k : Nat) : Int) + (if (((n - Int.toNat ((i * k : Nat) : Int)) : Nat) : Int) < (k : Int) then (((n - Int.toNat ((i * k : Nat) : Int)) : Nat) : Int) else (k : Int))) = ((i * k + min k (n - i * k) : Nat) : Int) := by
      rw [Int.toNat_natCast]
      generalize i * k = m at hlt ⊢
      split <;> rw [wrap_i64 (by omega) (by omega)] <;> omega
    rw [e]
    refine ⟨⟨by omega, by omega, by omega, by omega⟩, ?_⟩
    rw [Int.toNat_natCast, Int.toNat_natCast, Nat.add_sub_cancel_left]
    have hlt' : i < (cutsV z A n k).length := by rw [cutsV_length]; exact (cutsN_lt hk).2 hlt
    refine .inr ⟨l, rfl, ?_⟩
    have hy := hY i w1 hlt' hJ'
    have el : (cutsV z A n k)[i] = [.slice (cutAddr A (i * k) (i * k + min k (n - i * k)) z) (min k (n - i * k)) (min k (n - i * k))] := by simp [cutsV]
    rw [el] at hy
    obtain ⟨fn, tmps, asg, bd, hy1, hy2⟩ := hy
    refine ⟨fn, tmps, asg, bd, hy1, RoundIn.mono hy2 ?_⟩
    rintro (v | x | _) w2 hv
    · obtain ⟨rfl, hJ2⟩ := hv
      refine ⟨true, rfl, ?_⟩
      refine splitW_f (by rfl) ?_
      obtain ⟨h1, h2⟩ := hR _ _ hJ2
      refine ldW_blk (x := (k : Int)) h2 (by rfl) ?_
      rw [wrap_i64 (by omega) (by omega)]
      refine ⟨⟨i + 1, by rw [cutsV_length] at hlt'; omega, by rw [Nat.succ_mul]; rfl, hJ2⟩, ?_⟩
      generalize i * k = m at hlt ⊢
      omega
    · exact hv
    · exact hv
  · refine splitW_f (decide_eq_false (by omega)) ?_
    have : i = cutsN n k := by
      rcases Nat.lt_or_ge i (cutsN n k) with h | h
      · exact absurd ((cutsN_lt hk).1 h) hlt
      · omega
    subst this
    exact hJ
/-- What slices.Backward$1 does, of bytes. -/
def BackW (P : Program) (x0 : Value) (a1 : Addr) (K : Value → WP) : WP :=
  ldW .slc a1 fun (u1 : (Option Addr × Nat × Nat)) =>
  loopW (Int × Unit) ((IntKind.wrap .i64 (((u1.2.1 : Nat) : Int) - (1 : Int))), ()) fun (y3 : Int × Unit) (I2 : (Int × Unit) → WP) =>
  splitW (decide (y3.1 ≥ (0 : Int))) (ldW .slc a1 fun (u4 : (Option Addr × Nat × Nat)) =>
  guardW (0 ≤ y3.1 ∧ y3.1 < ((u4.2.1 : Nat) : Int)) <|
  ptrW u4.1 fun (p5 : Addr) =>
  ldW (.int .u8) (p5.add (Int.toNat y3.1 * 1)) fun (u6 : Int) =>
  callVW P x0 [(.int .i64 y3.1), (.int .u8 u6)] (.one (.one .bool)) fun (u7 : Bool) =>
  splitW (!u7) (K (.tuple #[])) <| I2 ((IntKind.wrap .i64 (y3.1 - (1 : Int))), ())) <| K (.tuple #[])
def backV (bs : List UInt8) : List (List Value) := (List.range bs.length).map fun i => [.int .i64 ((bs.length - 1 - i : Nat) : Int), .int .u8 ((bs.getD (bs.length - 1 - i) 0).toNat : Int)]
theorem backV_length (bs : List UInt8) : (backV bs).length = bs.length := by simp [backV]
theorem back_walk {P : Program} {r1 l n c : Nat} {A : Option Addr} {bs : List UInt8} {t1 : TypeId} {J : Nat → WP} {w : World} (h0 : J 0 w)
    (hR : ∀ i w', J i w' → Blk w' r1 [.slice A n c] t1 ∧ Sl w' A n (bV bs))
    (hY : ∀ i w' (h : i < (backV bs).length), J i w' → YieldAt P l (backV bs)[i] w' fun v w'' => v = .bool true ∧ J (i + 1) w'') :
    BackW P (.func (.yield l) #[] #[]) ⟨r1, 0, none⟩ (fun _ w' => J (backV bs).length w') w := by
  unfold BackW
  rw [backV_length]
  obtain ⟨h1, h2⟩ := hR 0 w h0
  have hl := h2.blen
  have hle := h2.le
  refine ldW_blk (x := (A, n, c)) h1 (by rfl) ?_
  dsimp only
  rw [wrap_i64 (by omega) (by omega)]
  refine loopW_i (fun y w' => ∃ i : Nat, i ≤ n ∧ y = ((n : Int) - 1 - i, ()) ∧ J i w') (fun y => (y.1 + 1).toNat) ⟨0, by omega, by simp, h0⟩ ?_
  rintro _ w' ⟨i, hi, rfl, hJ⟩
  dsimp only
  by_cases hlt : i < n
  · refine splitW_t (decide_eq_true (by omega)) ?_
    obtain ⟨h1, h2⟩ := hR i w' hJ
    refine ldW_blk (x := (A, n, c)) h1 (by rfl) ?_
    dsimp only
    refine idx_byte h2 (by omega) (by omega) ?_
    have hlt' : i < (backV bs).length := by rw [backV_length]; omega
    refine .inr ⟨l, rfl, ?_⟩
    have hy := hY i w' hlt' hJ
    have el : (backV bs)[i] = [.int .i64 ((n : Int) - 1 - i), .int .u8 ((bs.getD (Int.toNat ((n : Int) - 1 - i)) 0).toNat : Int)] := by
      have e1 : ((bs.length - 1 - i : Nat) : Int) = (n : Int) - 1 - i := by omega
      have e2 : Int.toNat ((n : Int) - 1 - i) = bs.length - 1 - i := by omega
      rw [e2, ← e1]
      simp [backV]
    rw [el] at hy
    obtain ⟨fn, tmps, asg, bd, hy1, hy2⟩ := hy
    refine ⟨fn, tmps, asg, bd, hy1, RoundIn.mono hy2 ?_⟩
    rintro (v | x | _) w2 hv
    · obtain ⟨rfl, hJ2⟩ := hv
      refine ⟨true, rfl, ?_⟩
      refine splitW_f (by rfl) ?_
      rw [wrap_i64 (by omega) (by omega)]
      exact ⟨⟨i + 1, by omega, by congr 1; omega, hJ2⟩, by omega⟩
    · exact hv
    · exact hv
  · refine splitW_f (decide_eq_false (by omega)) ?_
    obtain rfl : i = bs.length := by omega
    exact hJ
end Go.Proofs.YtjdmggaeagnolaaGreat.V
/- Contracts of the statements' own helpers, and of slices.Clone. -/
set_option linter.unusedVariables false
set_option linter.unusedSimpArgs false
namespace Go.Proofs.YtjdmggaeagnolaaGreat.V
open Go Go.Proofs
theorem elem_u8 : Elem Tryz.prog 62 5 (.int .u8 0) 1 := by
  refine ⟨by kernel_rfl, by kernel_rfl, rfl⟩
/-- A slice of bytes of one's own comes back. -/
def Bytes (w : World) (bs : List UInt8) (v : Value) (w' : World) : Prop := ∃ x : Option Addr × Nat × Nat, v = .slice x.1 x.2.1 x.2.2 ∧ Own 5 w' w.heap.size x.1 x.2.1 x.2.2 (bV bs) ∧ Ext w w'
theorem bytes_ret {w w' : World} {bs : List UInt8} {A : Option Addr} {n c : Nat} (h : Own 5 w' w.heap.size A n c (bV bs)) (he : Ext w w') : Bytes w bs (.slice A n c) w' := ⟨(A, n, c), rfl, h, he⟩
/-- A slice's bytes, behind an empty row. -/
theorem own_of {w : World} {A : Option Addr} {n c : Nat} {bs : List UInt8} {K : Option Addr × Nat × Nat → WP} (h : Sl w A n (bV bs)) (hn : n ≤ 140737488355328)
    (hK : ∀ A' c' w', Own 5 w' w.heap.size A' n c' (bV bs) → Ext w w' → K (A', n, c') w') :
    (newW (.cells #[] 5) fun r => runW Tryz.prog (Builtin.append_ #[62, 62] 62 #[.slice (some (⟨r, 0, none⟩ : Addr)) 0 0, .slice A n c]) .slc K) w := by
  apply newW_i
  have ho : Own 5 (w.alloc (.cells #[] 5)) w.heap.size (some ⟨w.heap.size, 0, none⟩) 0 0 [] := Own.lit (cs := #[]) (Nat.le_refl _) (by simp)
  have he : Ext w (w.alloc (.cells #[] 5)) := (Ext.refl w).alloc _
  refine append_sl (c := 0) (n := 0) (m := n) elem_u8 ho he.size (h.ext he) (bV_one bs) (by omega) (by omega) ?_
  intro A' c' w' ho' hg _
  rw [List.nil_append, Nat.zero_add] at ho'
  rw [Nat.zero_add]
  exact hK A' c' w' ho' (he.grown hg.grown (ho.row'))

/-- A number brought below another one. -/
def pick (n m : Int) : Int := if m < 1 then 0 else n % m
theorem pick_calls (w : World) {n m : Int} (hn0 : -9223372036854775808 ≤ n) (hn1 : n < 9223372036854775808) (hm1 : m < 9223372036854775808) : Calls Tryz.prog 68 #[.int .i64 n, .int .i64 m] w (Ret fun v w' => v = .int .i64 (pick n m) ∧ w' = w) := by
  apply calls68
  unfold S68 pick
  refine splitW_i (fun h => ?_) (fun h => ?_)
  · rw [if_pos (of_decide_eq_true h)]
    exact ⟨rfl, rfl⟩
  · have hm : ¬ m < 1 := of_decide_eq_false h
    rw [if_neg hm]
    refine ⟨by omega, ?_⟩
    have e := @Int.tmod_eq_emod n m
    have h1 := Int.emod_nonneg n (show m ≠ 0 by omega)
    have h2 := Int.emod_lt_of_pos n (show 0 < m by omega)
    by_cases hneg : n.tmod m < 0
    · refine splitW_t (decide_eq_true hneg) ?_
      refine ⟨?_, rfl⟩
      have h3 : n.tmod m = n % m - m := by
        rw [e]
        split
        · rename_i h4
          have : n.tmod m = n % m := by rw [e, if_pos h4]; omega
          omega
        · omega
      rw [h3, wrap_i64 (by omega) (by omega)]
      congr 1
      omega
    · refine splitW_f (decide_eq_false hneg) ?_
      refine ⟨?_, rfl⟩
      congr 1
      rw [e]
      split
      · omega
      · rename_i h4
        have : n.tmod m = n % m - m := by rw [e, if_neg h4]; omega
        omega

theorem clone_calls {w : World} {A : Option Addr} {n c : Nat} {bs : List UInt8} (h : Sl w A n (bV bs)) (hn : n ≤ 140737488355328) : Calls Tryz.prog 121 #[.slice A n c] w (Ret (Bytes w bs)) := by
  apply calls121
  unfold S121
  refine splitW_i (fun hA => ?_) (fun hA => ?_)
  · have hA : A = none := by simpa using hA
    subst hA
    have hn0 : n = 0 := by
      rcases Nat.eq_zero_or_pos n with h0 | h0
      · exact h0
      · obtain ⟨a, h1, _⟩ := h.2.2 h0; cases h1
    have hb := h.blen
    obtain rfl : bs = [] := List.eq_nil_of_length_eq_zero (by omega)
    exact bytes_ret (Own.nil _ _ _) (Ext.refl w)
  · exact own_of h hn fun A' c' w' ho he => bytes_ret ho he
end Go.Proofs.YtjdmggaeagnolaaGreat.V
