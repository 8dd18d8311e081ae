/- Writing in place: appends within a row's room, copies. -/
import Derived.Test.YtpbjbhcejgnhiaaDoorHX
import Derived.Lib.AppendZerosOnto
set_option linter.unusedVariables false
set_option linter.unusedSimpArgs false
namespace Go.Proofs.YtpbjbhcejgnhiaaDoor.V
open Go Go.RowKit

theorem setCells_shift (b o : Nat) : ∀ (vs : List Value) (i : Nat) (w : World), setCells w ⟨b, o, none⟩ i vs = setCells w ⟨b, 0, none⟩ (o + i) vs
  | [], _, _ => rfl
  | v :: r, i, w => by
    simp only [setCells, add_mk, Nat.zero_add]
    rw [setCells_shift b o r (i + 1)]
    rfl
theorem storable_shift (b o : Nat) : ∀ (vs : List Value) (i : Nat) (w : World), Storable w ⟨b, 0, none⟩ (o + i) vs → Storable w ⟨b, o, none⟩ i vs
  | [], _, _, _ => trivial
  | v :: r, i, w, h => by
    simp only [Storable, add_mk, Nat.zero_add] at h ⊢
    exact ⟨h.1, h.2.1, h.2.2.1, storable_shift b o r (i + 1) w h.2.2.2⟩
theorem setCells_other (b : Nat) : ∀ (vs : List Value) (i o : Nat) (w : World) (k : Nat), k ≠ b → (setCells w ⟨b, o, none⟩ i vs).heap[k]? = w.heap[k]?
  | [], _, _, _, _, _ => rfl
  | v :: r, i, o, w, k, h => by
    simp only [setCells]
    rw [setCells_other b r (i + 1) o _ k h, Below.heap_setCell _ _ _ _ (by rw [add_mk]; exact h)]
theorem setCells_size (b : Nat) : ∀ (vs : List Value) (i o : Nat) (w : World), (setCells w ⟨b, o, none⟩ i vs).heap.size = w.heap.size
  | [], _, _, _ => rfl
  | v :: r, i, o, w => by
    simp only [setCells]
    rw [setCells_size b r (i + 1) o _]
    simp
theorem setCells_meta (b : Nat) : ∀ (vs : List Value) (i o : Nat) (w : World), (setCells w ⟨b, o, none⟩ i vs).os = w.os ∧ (setCells w ⟨b, o, none⟩ i vs).tape = w.tape ∧ (setCells w ⟨b, o, none⟩ i vs).output = w.output
  | [], _, _, _ => ⟨rfl, rfl, rfl⟩
  | v :: r, i, o, w => setCells_meta b r (i + 1) o _
/-- Cells in a row of one's block are set. -/
theorem blk_put {w : World} {b o : Nat} {cs vs : List Value} {t : TypeId} (h : Blk w b cs t) (hl : o + vs.length ≤ cs.length) (hv : ∀ v ∈ vs, v.oneCell' = true) :
    Storable w ⟨b, o, none⟩ 0 vs ∧ Blk (setCells w ⟨b, o, none⟩ 0 vs) b (cs.take o ++ vs ++ cs.drop (o + vs.length)) t ∧ w.grownBy (setCells w ⟨b, o, none⟩ 0 vs) (some b) := by
  refine ⟨storable_shift b o vs 0 w (h.storable_from vs o hl hv), ?_, ?_⟩
  · rw [setCells_shift]
    exact Blk.setCells_from vs o w cs h hl
  · obtain ⟨m1, m2, m3⟩ := setCells_meta b vs 0 o w
    exact ⟨m1, m2, m3, by rw [setCells_size]; exact Nat.le_refl _, fun k hk hne => setCells_other b vs 0 o w k (fun e => hne (by rw [e]))⟩
section
variable {P : Program} {t e : TypeId} {z : Value} {bytes : Nat}
/-- append(s, x...), where there is room. -/
theorem append_fit {w : World} {b o n c m d : Nat} {ty t2 : TypeId} {X : Option Addr} {cs ys : List Value} {K : (Option Addr × Nat × Nat) → WP} (hE : Elem P t e z bytes) (hb : Blk w b cs t2) (ho : o + c ≤ cs.length) (hn : n + m ≤ c)
    (hx : Sl w X m ys) (hys : ∀ y ∈ ys, y.oneCell' = true)
    (hK : ∀ w', Blk w' b (cs.take (o + n) ++ ys ++ cs.drop (o + n + m)) t2 → w.grownBy w' (some b) → K (some ⟨b, o, none⟩, n + m, c) w') :
    runW P (Builtin.append_ #[t, t] ty #[.slice (some ⟨b, o, none⟩) n c, .slice X m d]) .slc K w := by
  obtain ⟨ht, hi, hz⟩ := hE
  obtain ⟨i, hi, hii⟩ := Option.map_eq_some_iff.1 hi
  simp only [Prod.mk.injEq] at hii
  obtain ⟨hz0, hz1, hz2⟩ := hii
  have hl := hx.len
  obtain ⟨hst, hbl, hg⟩ := blk_put hb (o := o + n) (vs := ys) (by omega) hys
  rw [hl] at hbl
  cases X with
  | none =>
    obtain rfl : m = 0 := by
      rcases Nat.eq_zero_or_pos m with h | h
      · exact h
      · obtain ⟨a, h1, _⟩ := hx.2.2 h; cases h1
    obtain rfl : ys = [] := List.eq_nil_of_length_eq_zero hl
    refine ⟨(some ⟨b, o, none⟩, n, c), w, ?_, hK w (by simpa using hb) (grownBy_refl _ _)⟩
    simp [Builtin.append_, run_underlying ht, sizeOf, typeInfo, hi, Builtin.lenOf, Builtin.firstCells, show n ≤ c by omega, storeCells]
    rfl
  | some a =>
    have hcells : ∀ j u, ys[j]? = some u → w.cell? (a.add j) = some u := (fun j u hj => by
        rcases Nat.eq_zero_or_pos m with h | h
        · have : j < ys.length := (List.getElem?_eq_some_iff.1 hj).1
          omega
        · obtain ⟨a', h1, h2⟩ := hx.2.2 h
          cases h1
          exact h2 j u hj)
    have hload := run_loadCells_list (P := P) w a ys hcells
    have hstore := run_storeCells (P := P) hst
    refine ⟨(some ⟨b, o, none⟩, n + m, c), _, ?_, hK _ hbl hg⟩
    rw [hl] at hload
    simp [Builtin.append_, run_underlying ht, sizeOf, typeInfo, hi, hz1, Builtin.lenOf, Builtin.firstCells, hn, hload, add_mk, hstore]
    rfl
theorem append_newfit {w : World} {b o n c : Nat} {ty t2 : TypeId} {cs ys : List Value} {K : (Option Addr × Nat × Nat) → WP} (hE : Elem P t e z bytes) (hb : Blk w b cs t2) (ho : o + c ≤ cs.length) (hn : n + ys.length ≤ c) (hc : c ≤ 9223372036854775807)
    (hys : ∀ y ∈ ys, y.oneCell' = true)
    (hK : ∀ w', Blk w' b (cs.take (o + n) ++ ys ++ cs.drop (o + n + ys.length)) t2 → w.grownBy w' (some b) → K (some ⟨b, o, none⟩, n + ys.length, c) w') :
    (newW (.cells ys.toArray e) fun r => runW P (Builtin.append_ #[t, t] ty #[.slice (some ⟨b, o, none⟩) n c, .slice (some (⟨r, 0, none⟩ : Addr)) ys.length ys.length]) .slc K) w := by
  refine new_i fun r w1 hr he _ _ => ?_
  refine append_fit hE (hb.ext he) ho hn (Sl.of_blk hr rfl (by omega)) hys fun w' hb' hg => hK w' hb' ?_
  exact grownBy_tr (grownBy_of_ext he _) hg (fun j hj => .inl hj)
/-- copy(s, text) -/
theorem copy_str {w : World} {b o n c : Nat} {ty u t2 : TypeId} {cs : List Value} {s : ByteArray} {K : Int → WP} (hE : Elem P t e z bytes) (hb : Blk w b cs t2) (ho : o + n ≤ cs.length)
    (hK : ∀ w', Blk w' b (cs.take o ++ bV ((B s).take n) ++ cs.drop (o + min (B s).length n)) t2 → w.grownBy w' (some b) → K ((min (B s).length n : Nat) : Int) w') :
    runW P (Builtin.copy_ #[t, u] ty #[.slice (some ⟨b, o, none⟩) n c, .string s]) (.int .i64) K w := by
  obtain ⟨ht, hi, hz⟩ := hE
  obtain ⟨i, hi, hii⟩ := Option.map_eq_some_iff.1 hi
  simp only [Prod.mk.injEq] at hii
  obtain ⟨hz0, hz1, hz2⟩ := hii
  have hsz := B_size s
  have hlen : (bV ((B s).take n)).length = min (B s).length n := by rw [length_bV, List.length_take, Nat.min_comm]
  obtain ⟨hst, hbl, hg⟩ := blk_put hb (o := o) (vs := bV ((B s).take n)) (by rw [hlen]; omega) (bV_one _)
  rw [hlen] at hbl
  have hstore := run_storeCells (P := P) hst
  have e1 : List.take (if s.size ≤ n then s.size else n) (List.map (fun b => Value.int IntKind.u8 (b.toNat : Int)) s.data.toList) = bV ((B s).take n) := by
    rw [← Nat.min_def, hsz]
    show List.take _ (bV (B s)) = _
    rw [bV_take]
    congr 1
    rcases Nat.le_total (B s).length n with h | h
    · rw [Nat.min_eq_left h, List.take_length, List.take_of_length_le h]
    · rw [Nat.min_eq_right h]
  refine ⟨((min (B s).length n : Nat) : Int), _, ?_, hK _ hbl hg⟩
  rw [← hsz]
  simp [Builtin.copy_, run_underlying ht, sizeOf, typeInfo, hi, Builtin.lenOf, Builtin.firstCells, hstore, goInt, Nat.min_def, Lf.val]
  rw [e1, hstore]
  rfl
end
theorem toList_zeros (k : Nat) : (Builtin.zeroCells (Value.int .u8 0).cells k).toList = bV (List.replicate k 0) := by
  apply List.ext_getElem
  · simp [Builtin.zeroCells, bV, Value.cells]
  · intro i h1 h2
    have hi : i < k := by simpa [Builtin.zeroCells, Value.cells] using h1
    simp [Builtin.zeroCells, bV, Value.cells, Nat.mod_one]
/-- append(s, make([]byte, k)...), of a slice of one's own that is not nil -/
theorem append_zeros {P : Program} {t tn e : TypeId} {kn : IntKind} {w : World} {B0 : Nat} {ty : TypeId} {A : Option Addr} {n c k : Nat} {bs : List UInt8} {K : (Option Addr × Nat × Nat) → WP} (hE : Elem P t e (.int .u8 0) 1) (hu : P.underlying tn = some (.int kn)) (ho : Own e w B0 A n c (bV bs)) (hB : B0 ≤ w.heap.size) (hn : 0 < n)
    (hlen : n + k ≤ 140737488355328)
    (hK : ∀ A' c' w', Own e w' B0 A' (n + k) c' (bV (bs ++ List.replicate k 0)) → Grew w w' (orow A) (orow A') → K (A', n + k, c') w') :
    runW P (Builtin.append_ #[t, tn] ty #[.slice A n c, .int .i64 (k : Int)]) .slc K w := by
  obtain ⟨ht, hi, hz⟩ := hE
  obtain ⟨i, hi, hii⟩ := Option.map_eq_some_iff.1 hi
  simp only [Prod.mk.injEq] at hii
  obtain ⟨hz0, hz1, hz2⟩ := hii
  have hxl : (bV bs).length = n := by simpa using ho.1
  rcases ho.2 with ⟨h1, h2⟩ | ⟨g, cap, cur, hv, hbg, hg, hnc, hcm, hcs, htake⟩
  · omega
  · injection hv with hv1 hv2 hv3
    subst hv1
    subst hv3
    simp only [maxLen] at hcm
    have hw : IntKind.i64.wrap (k : Int) = k := by rw [wrap_i64]; omega
                                                   omega
    have hneg : ¬ ((k : Int) < 0) := by omega
    have h48 : ¬ (281474976710656 < (k : Int) * (i.bytes : Int)) := by rw [hz2]; omega
    have hlen2 : (bV (bs ++ List.replicate k 0)).length = (n + k) * 1 := by rw [length_bV, List.length_append, List.length_replicate, Nat.mul_one, ← hxl, length_bV]
    by_cases hroom : n + k ≤ c
    · have hblk : Blk w g cur.toList e := by show w.heap[g]? = _; rw [hg]
      obtain ⟨hst, hbl, hgr⟩ := blk_put hblk (o := n) (vs := bV (List.replicate k 0)) (by rw [length_bV, List.length_replicate, Array.length_toList, hcs]; omega) (bV_one _)
      have hstore := run_storeCells (P := P) hst
      rw [length_bV, List.length_replicate] at hbl
      refine ⟨(some ⟨g, 0, none⟩, n + k, c), _, ?_, hK _ _ _ ⟨hlen2, .inr ⟨g, c, _, rfl, hbg, hbl, hroom, by simp only [maxLen]; omega, ?_, ?_⟩⟩ ⟨hgr, fun j hj => .inl hj⟩⟩
      · by_cases hk0 : k = 0
        · subst hk0
          have hw0 : IntKind.i64.wrap 0 = 0 := by decide
          simp [Builtin.append_, run_underlying ht, run_underlying hu, sizeOf, typeInfo, zeroValue, hi, hz0, hz1, hz2, asInt, asIntOf, hw0, hnc, storeCells, setCells, bV]
          rfl
        · have e1 : (Builtin.zeroCells #[Value.int .u8 0] k).toList = bV (List.replicate k 0) := toList_zeros k
          simp [Builtin.append_, run_underlying ht, run_underlying hu, sizeOf, typeInfo, zeroValue, hi, hz0, hz1, hz2, asInt, asIntOf, hw, hneg, show ¬ (281474976710656 < (k : Int)) by omega, hk0, hroom, add_mk, Value.cells, e1, hstore]
          rfl
      · simp only [List.size_toArray, List.length_append, List.length_take, List.length_drop, Array.length_toList, length_bV, List.length_replicate, hcs]
        omega
      · simp only [Nat.mul_one] at htake ⊢
        rw [htake, bV_append, ← hxl]
        have : ((bV bs).length + k) = (bV bs ++ bV (List.replicate k 0)).length := by simp [length_bV]
        rw [this, List.take_left]
    · have hold : (Builtin.firstCells i.size n (.slice (some ⟨g, 0, none⟩) n c)).run P w.drew = .ok (bV bs).toArray w.drew := by
        have hc := World.ownsRow.cells ho (g := g) rfl
        have hload := run_loadCells_list (P := P) w.drew ⟨g, 0, none⟩ (bV bs) (fun j v hj => hc j v hj)
        rw [hxl] at hload
        simp [Builtin.firstCells, hz1, hload]
      have hr := Go.Lib.run_append_grow_zeros (P := P) w t tn ty e i (.int .u8 0) .i64 kn ht hu hi hz0 (some ⟨g, 0, none⟩) n c (bV bs) hold k (by omega) (by omega) (by omega) (by omega) (by rw [hz2]; omega) (growslice_fits (by omega) (by rw [hz2]; omega))
      have hge := grownCap_ge w (n + k) c e
      have hcm2 := grownCap_le_maxLen w (n + k) c e (by simp only [maxLen]; omega)
      refine ⟨(some ⟨w.heap.size, 0, none⟩, n + k, grownCap w (n + k) c e), _, hr, hK _ _ _ ⟨hlen2, .inr ⟨w.heap.size, _, _, rfl, hB, heap_alloc_new w.drew _, hge, hcm2, ?_, ?_⟩⟩ ⟨⟨rfl, rfl, rfl, by simp, fun k hk _ => heap_alloc_old w.drew _ k hk⟩, fun j hj => .inr (by injection hj with hj; exact Nat.le_of_eq hj)⟩⟩
      · have hz1' : (Value.int IntKind.u8 0).cells.size = 1 := rfl
        simp only [Array.size_append, List.size_toArray, size_zeroCells, hz1', hxl]
        omega
      · simp only [Array.toList_append, List.append_assoc, toList_zeros]
        rw [← List.append_assoc, ← bV_append, ← hlen2]
        exact List.take_left
/-- Noughts that are written over, from the first on. -/
theorem put_at (pre new : List UInt8) (k : Nat) (h : new.length ≤ k) : (pre ++ List.replicate k (0 : UInt8)).take pre.length ++ new ++ (pre ++ List.replicate k (0 : UInt8)).drop (pre.length + new.length) = (pre ++ new) ++ List.replicate (k - new.length) 0 := by
  rw [List.take_left, List.drop_append]
  simp [List.drop_of_length_le]
end Go.Proofs.YtpbjbhcejgnhiaaDoor.V
