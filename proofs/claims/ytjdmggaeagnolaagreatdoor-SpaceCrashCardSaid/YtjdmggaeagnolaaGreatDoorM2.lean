/- Texts of mine, merged (wip/tool/mergep.py): M2. -/
import Derived.Test.YtjdmggaeagnolaaGreatDoorM1
import Derived.Test.YtjdmggaeagnolaaGreatDoorChecked
import Derived.MapKept
import Derived.Lib.AppendZerosOnto
/- Texts of mine, merged (wip/tool/mergep.py): M2, M3_0. -/
/- Texts of mine, merged (wip/tool/mergep.py): DecCounts, HM, HP, HB. -/
/- Geometries and words that came in, opened. -/
set_option linter.unusedVariables false
set_option linter.unusedSimpArgs false
set_option maxRecDepth 100000
namespace Go.Proofs.YtjdmggaeagnolaaGreatDoor.V
open Go Go.ChangeShapes Go.WideShapes Go.ChangeAt Go.RowKit Go.Deep Go.Proofs
section
variable {H : Type} {enc : TypeId × Value → H} {w : World} {base : Nat} {spare : Nat → Bool} {held : Bool}
theorem open_geo {v : Value} {d : DataW H} {ps : List MemPlace} {r : Reach} {b0 : Nat} (hv : Value.okWide Tryz.prog w r b0 23 v) (h : DataW.Trod enc Tryz.prog w base spare held 23 v d ps) :
    ∃ s b : Int, v = .agg #[.int .i64 s, .int .i64 b] ∧ (-9223372036854775808 ≤ s ∧ s < 9223372036854775808) ∧ (-9223372036854775808 ≤ b ∧ b < 9223372036854775808) := by
  obtain ⟨cs, rfl, hsz⟩ := okWide_struct (show Tryz.prog.underlying 23 = some (.struct (fieldsOf Tryz.prog 23)) by kernel_rfl) hv
  obtain ⟨fuel, hf⟩ := h
  have hf' : DataW.trod enc Tryz.prog w base spare held fuel 23 cs.toList = some (d, ps) := hf
  obtain ⟨hl, m, hf2⟩ := dec_fields (ts := [3, 3]) (by kernel_rfl) (by kernel_rfl) (by kernel_rfl) (by kernel_rfl) hf'
  obtain ⟨v0, y0, e0, h0⟩ := hf2 0 _ rfl
  obtain ⟨v1, y1, e1, h1⟩ := hf2 1 _ rfl
  obtain ⟨z0, hz0, hw0⟩ := dec_int (k := .i64) (by kernel_rfl) h0
  obtain ⟨z1, hz1, hw1⟩ := dec_int (k := .i64) (by kernel_rfl) h1
  cases hz0; cases hz1
  refine ⟨z0, z1, ?_, nat_i64 hw0, nat_i64 hw1⟩
  congr 1
  apply Array.toList_inj.1
  match hcs : cs.toList, hl with
  | [a, b], _ =>
    rw [hcs] at e0 e1
    simp only [List.getElem?_cons_zero, List.getElem?_cons_succ, Option.some.injEq] at e0 e1
    rw [e0, e1]
end
end Go.Proofs.YtjdmggaeagnolaaGreatDoor.V
/- Maps from ints to empty structs: sets of ints. -/
namespace Go.Proofs.YtjdmggaeagnolaaGreatDoor.V
open Go Go.Proofs Go.RowKit Go.MapKept
def SetAt (w : World) (r : Nat) (ks : List Int) : Prop := ∃ (es : Array MapEntry) (clock : Nat), w.heap[r]? = some (.map es clock) ∧ es.toList.map (·.key) = ks.map (fun k => Value.int .i64 k) ∧ ∀ e ∈ es.toList, e.val = .agg #[]
theorem SetAt.ext {w w' : World} {r : Nat} {ks : List Int} (h : SetAt w r ks) (he : Ext w w') : SetAt w' r ks := by
  obtain ⟨es, c, hb, h1, h2⟩ := h
  exact ⟨es, c, he.heap hb, h1, h2⟩
section
variable {P : Program} {t kt et : TypeId}
theorem makeMap_i {w : World} {K : Value → WP} (hK : ∀ w', SetAt w' w.heap.size [] → Ext w w' → w'.heap.size = w.heap.size + 1 → K (.map (some w.heap.size)) w') : runW P (Instr.makeMap t none) .any K w := by
  refine ⟨.map (some w.heap.size), w.alloc (.map #[] 0), ?_, hK _ ⟨#[], 0, (heap_alloc w _).1, rfl, by simp⟩ ((Ext.refl w).alloc _) (by show (w.heap.push _).size = _; simp)⟩
  simp [Instr.makeMap, Result.andThen, Lf.val]
theorem keys_of {es : Array MapEntry} {ks : List Int} (h : es.toList.map (·.key) = ks.map (fun k => Value.int .i64 k)) : ∀ x ∈ es.toList, IsKey (.int .i64) x.key := by
  intro x hx
  have : x.key ∈ es.toList.map (·.key) := List.mem_map.2 ⟨x, hx, rfl⟩
  rw [h] at this
  obtain ⟨k, _, e⟩ := List.mem_map.1 this
  rw [← e]
  simp [IsKey]
theorem lookup_i {w : World} {r : Nat} {ks : List Int} {k : Int} {K : Unit × Bool × Unit → WP} (hm : P.underlying t = some (.map kt et)) (hk : P.underlying kt = some (.int .i64)) (hz : (zeroValue et).run P w = .ok (.agg #[]) w)
    (h : SetAt w r ks) (hK : K ((), decide (k ∈ ks), ()) w) : runRW P (Instr.lookup t (.map (some r)) (.int .i64 k) true) (.many [(.agg []), (.one .bool)]) K w := by
  obtain ⟨es, c, hb, h1, h2⟩ := h
  have hik : IsKey (.int .i64) (.int .i64 k) := by simp [IsKey]
  refine ⟨((), decide (k ∈ ks), ()), w, ?_, hK⟩
  have hck := run_checkKey (w := w) hk hik es.isEmpty 9999
  rcases findNow_spec hik es.toList 0 (keys_of h1) with ⟨hn, hno⟩ | ⟨j, e, hn, hj, he⟩
  · have hf := run_findKey (w := w) hk hn
    have hnot : k ∉ ks := by
      intro hmem
      have : Value.int .i64 k ∈ es.toList.map (·.key) := by rw [h1]; exact List.mem_map.2 ⟨k, hmem, rfl⟩
      obtain ⟨x, hx, e⟩ := List.mem_map.1 this
      exact hno x hx e
    rw [decide_eq_false hnot]
    simp only [Instr.lookup, Sem.run_bind, run_underlying hm, Result.andThen, Go.MapKept.run_getObj_map hb]
    simp [hck, hf, hz, Result.andThen]
    rfl
  · have hf := run_findKey (w := w) hk hn
    have hmem : k ∈ ks := by
      have : e.key ∈ es.toList.map (·.key) := List.mem_map.2 ⟨e, List.mem_of_getElem? hj, rfl⟩
      rw [h1, he] at this
      obtain ⟨k', hk', e'⟩ := List.mem_map.1 this
      injection e' with _ e'
      rw [← e']; exact hk'
    rw [decide_eq_true hmem]
    have hv := h2 e (List.mem_of_getElem? hj)
    simp only [Instr.lookup, Sem.run_bind, run_underlying hm, Result.andThen, Go.MapKept.run_getObj_map hb]
    simp [hck, hf, hv, Result.andThen]
    rfl
theorem mapUpdate_i {w : World} {r : Nat} {ks : List Int} {k : Int} {K : WP} (hm : P.underlying t = some (.map kt et)) (hk : P.underlying kt = some (.int .i64)) (h : SetAt w r ks) (hno : k ∉ ks)
    (hK : ∀ w', SetAt w' r (ks ++ [k]) → w.grownBy w' (some r) → K w') : runUW P (Instr.mapUpdate t (.map (some r)) (.int .i64 k) (.agg #[])) K w := by
  obtain ⟨es, c, hb, h1, h2⟩ := h
  have hik : IsKey (.int .i64) (.int .i64 k) := by simp [IsKey]
  have hck := run_checkKey (w := w) hk hik false 9999
  rcases findNow_spec hik es.toList 0 (keys_of h1) with ⟨hn, hno'⟩ | ⟨j, e, hn, hj, he⟩
  · have hf := run_findKey (w := w) hk hn
    have hset := run_setObj_map (P := P) (.map (es.push { key := .int .i64 k, val := .agg #[], born := c }) (c + 1)) hb
    refine ⟨{ w with heap := w.heap.setIfInBounds r (.map (es.push { key := .int .i64 k, val := .agg #[], born := c }) (c + 1)) }, ?_, hK _ ⟨_, _, (heap_set hb).1, ?_, ?_⟩ ⟨rfl, rfl, rfl, by simp, fun j _ hne => (heap_set hb).2 j (fun e => hne (by rw [e]))⟩⟩
    · simp only [Instr.mapUpdate, Sem.run_bind, run_underlying hm, Result.andThen, Go.MapKept.run_getObj_map hb]
      simp [hck, hf, hset, Result.andThen]
    · simp [h1]
    · intro e he
      simp only [Array.toList_push, List.mem_append, List.mem_singleton] at he
      rcases he with he | rfl
      · exact h2 e he
      · rfl
  · exfalso
    have : e.key ∈ es.toList.map (·.key) := List.mem_map.2 ⟨e, List.mem_of_getElem? hj, rfl⟩
    rw [h1, he] at this
    obtain ⟨k', hk', e'⟩ := List.mem_map.1 this
    injection e' with _ e'
    exact hno (by rw [← e']; exact hk')
end
end Go.Proofs.YtjdmggaeagnolaaGreatDoor.V
/- Writing in place: appends within a row's room, copies. -/
namespace Go.Proofs.YtjdmggaeagnolaaGreatDoor.V
open Go Go.RowKit
theorem setCells_shift (b o : Nat) : ∀ (vs : List Value) (i : Nat) (w : World), setCells w ⟨b, o, none⟩ i vs = setCells w ⟨b, 0, none⟩ (o + i) vs
  | [], _, _ => rfl
  | v :: r, i, w => by
    simp only [setCells, add_mk, Nat.zero_add]
    rw [setCells_shift b o r (i + 1)]
    rfl
theorem storable_shift (b o : Nat) : ∀ (vs : List Value) (i : Nat) (w : World), Storable w ⟨b, 0, none⟩ (o + i) vs → Storable w ⟨b, o, none⟩ i vs
  | [], _, _, _ => trivial
  | v :: r, i, w, h => by
    simp only [Storable, add_mk, Nat.zero_add] at h ⊢
    exact ⟨h.1, h.2.1, h.2.2.1, storable_shift b o r (i + 1) w h.2.2.2⟩
theorem setCells_other (b : Nat) : ∀ (vs : List Value) (i o : Nat) (w : World) (k : Nat), k ≠ b → (setCells w ⟨b, o, none⟩ i vs).heap[k]? = w.heap[k]?
  | [], _, _, _, _, _ => rfl
  | v :: r, i, o, w, k, h => by
    simp only [setCells]
    rw [setCells_other b r (i + 1) o _ k h, Below.heap_setCell _ _ _ _ (by rw [add_mk]; exact h)]
theorem setCells_size (b : Nat) : ∀ (vs : List Value) (i o : Nat) (w : World), (setCells w ⟨b, o, none⟩ i vs).heap.size = w.heap.size
  | [], _, _, _ => rfl
  | v :: r, i, o, w => by
    simp only [setCells]
    rw [setCells_size b r (i + 1) o _]
    simp
theorem setCells_meta (b : Nat) : ∀ (vs : List Value) (i o : Nat) (w : World), (setCells w ⟨b, o, none⟩ i vs).os = w.os ∧ (setCells w ⟨b, o, none⟩ i vs).tape = w.tape ∧ (setCells w ⟨b, o, none⟩ i vs).output = w.output
  | [], _, _, _ => ⟨rfl, rfl, rfl⟩
  | v :: r, i, o, w => setCells_meta b r (i + 1) o _
theorem blk_put {w : World} {b o : Nat} {cs vs : List Value} {t : TypeId} (h : Blk w b cs t) (hl : o + vs.length ≤ cs.length) (hv : ∀ v ∈ vs, v.oneCell' = true) :
    Storable w ⟨b, o, none⟩ 0 vs ∧ Blk (setCells w ⟨b, o, none⟩ 0 vs) b (cs.take o ++ vs ++ cs.drop (o + vs.length)) t ∧ w.grownBy (setCells w ⟨b, o, none⟩ 0 vs) (some b) := by
  refine ⟨storable_shift b o vs 0 w (h.storable_from vs o hl hv), ?_, ?_⟩
  · rw [setCells_shift]
    exact Blk.setCells_from vs o w cs h hl
  · obtain ⟨m1, m2, m3⟩ := setCells_meta b vs 0 o w
    exact ⟨m1, m2, m3, by rw [setCells_size]; exact Nat.le_refl _, fun k hk hne => setCells_other b vs 0 o w k (fun e => hne (by rw [e]))⟩
section
variable {P : Program} {t e : TypeId} {z : Value} {bytes : Nat}
theorem append_fit {w : World} {b o n c m d : Nat} {ty t2 : TypeId} {X : Option Addr} {cs ys : List Value} {K : (Option Addr × Nat × Nat) → WP} (hE : Elem P t e z bytes) (hb : Blk w b cs t2) (ho : o + c ≤ cs.length) (hn : n + m ≤ c)
    (hx : Sl w X m ys) (hys : ∀ y ∈ ys, y.oneCell' = true)
    (hK : ∀ w', Blk w' b (cs.take (o + n) ++ ys ++ cs.drop (o + n + m)) t2 → w.grownBy w' (some b) → K (some ⟨b, o, none⟩, n + m, c) w') :
    runW P (Builtin.append_ #[t, t] ty #[.slice (some ⟨b, o, none⟩) n c, .slice X m d]) .slc K w := by
  obtain ⟨ht, hi, hz⟩ := hE
  obtain ⟨i, hi, hii⟩ := Option.map_eq_some_iff.1 hi
  simp only [Prod.mk.injEq] at hii
  obtain ⟨hz0, hz1, hz2⟩ := hii
  have hl := hx.len
  obtain ⟨hst, hbl, hg⟩ := blk_put hb (o := o + n) (vs := ys) (by omega) hys
  rw [hl] at hbl
  cases X with
  | none =>
    obtain rfl : m = 0 := by
      rcases Nat.eq_zero_or_pos m with h | h
      · exact h
      · obtain ⟨a, h1, _⟩ := hx.2.2 h; cases h1
    obtain rfl : ys = [] := List.eq_nil_of_length_eq_zero hl
    refine ⟨(some ⟨b, o, none⟩, n, c), w, ?_, hK w (by simpa using hb) (grownBy_refl _ _)⟩
    simp [Builtin.append_, run_underlying ht, sizeOf, typeInfo, hi, Builtin.lenOf, Builtin.firstCells, show n ≤ c by omega, storeCells]
    rfl
  | some a =>
    have hcells : ∀ j u, ys[j]? = some u → w.cell? (a.add j) = some u := (fun j u hj => by
        rcases Nat.eq_zero_or_pos m with h | h
        · have : j < ys.length := (List.getElem?_eq_some_iff.1 hj).1
          omega
        · obtain ⟨a', h1, h2⟩ := hx.2.2 h
          cases h1
          exact h2 j u hj)
    have hload := run_loadCells_list (P := P) w a ys hcells
    have hstore := run_storeCells (P := P) hst
    refine ⟨(some ⟨b, o, none⟩, n + m, c), _, ?_, hK _ hbl hg⟩
    rw [hl] at hload
    simp [Builtin.append_, run_underlying ht, sizeOf, typeInfo, hi, hz1, Builtin.lenOf, Builtin.firstCells, hn, hload, add_mk, hstore]
    rfl
theorem append_newfit {w : World} {b o n c : Nat} {ty t2 : TypeId} {cs ys : List Value} {K : (Option Addr × Nat × Nat) → WP} (hE : Elem P t e z bytes) (hb : Blk w b cs t2) (ho : o + c ≤ cs.length) (hn : n + ys.length ≤ c) (hc : c ≤ 9223372036854775807)
    (hys : ∀ y ∈ ys, y.oneCell' = true)
    (hK : ∀ w', Blk w' b (cs.take (o + n) ++ ys ++ cs.drop (o + n + ys.length)) t2 → w.grownBy w' (some b) → K (some ⟨b, o, none⟩, n + ys.length, c) w') :
    (newW (.cells ys.toArray e) fun r => runW P (Builtin.append_ #[t, t] ty #[.slice (some ⟨b, o, none⟩) n c, .slice (some (⟨r, 0, none⟩ : Addr)) ys.length ys.length]) .slc K) w := by
  refine new_i fun r w1 hr he _ _ => ?_
  refine append_fit hE (hb.ext he) ho hn (Sl.of_blk hr rfl (by omega)) hys fun w' hb' hg => hK w' hb' ?_
  exact grownBy_tr (grownBy_of_ext he _) hg (fun j hj => .inl hj)
theorem copy_str {w : World} {b o n c : Nat} {ty u t2 : TypeId} {cs : List Value} {s : ByteArray} {K : Int → WP} (hE : Elem P t e z bytes) (hb : Blk w b cs t2) (ho : o + n ≤ cs.length)
    (hK : ∀ w', Blk w' b (cs.take o ++ bV ((B s).take n) ++ cs.drop (o + min (B s).length n)) t2 → w.grownBy w' (some b) → K ((min (B s).length n : Nat) : Int) w') :
    runW P (Builtin.copy_ #[t, u] ty #[.slice (some ⟨b, o, none⟩) n c, .string s]) (.int .i64) K w := by
  obtain ⟨ht, hi, hz⟩ := hE
  obtain ⟨i, hi, hii⟩ := Option.map_eq_some_iff.1 hi
  simp only [Prod.mk.injEq] at hii
  obtain ⟨hz0, hz1, hz2⟩ := hii
  have hsz := B_size s
  have hlen : (bV ((B s).take n)).length = min (B s).length n := by rw [length_bV, List.length_take, Nat.min_comm]
  obtain ⟨hst, hbl, hg⟩ := blk_put hb (o := o) (vs := bV ((B s).take n)) (by rw [hlen]; omega) (bV_one _)
  rw [hlen] at hbl
  have hstore := run_storeCells (P := P) hst
  have e1 : List.take (if s.size ≤ n then s.size else n) (List.map (fun b => Value.int IntKind.u8 (b.toNat : Int)) s.data.toList) = bV ((B s).take n) := by
    rw [← Nat.min_def, hsz]
    show List.take _ (bV (B s)) = _
    rw [bV_take]
    congr 1
    rcases Nat.le_total (B s).length n with h | h
    · rw [Nat.min_eq_left h, List.take_length, List.take_of_length_le h]
    · rw [Nat.min_eq_right h]
  refine ⟨((min (B s).length n : Nat) : Int), _, ?_, hK _ hbl hg⟩
  rw [← hsz]
  simp [Builtin.copy_, run_underlying ht, sizeOf, typeInfo, hi, Builtin.lenOf, Builtin.firstCells, hstore, goInt, Nat.min_def, Lf.val]
  rw [e1, hstore]
  rfl
end
theorem toList_zeros (k : Nat) : (Builtin.zeroCells (Value.int .u8 0).cells k).toList = bV (List.replicate k 0) := by
  apply List.ext_getElem
  · simp [Builtin.zeroCells, bV, Value.cells]
  · intro i h1 h2
    have hi : i < k := by simpa [Builtin.zeroCells, Value.cells] using h1
    simp [Builtin.zeroCells, bV, Value.cells, Nat.mod_one]
theorem append_zeros {P : Program} {t tn e : TypeId} {kn : IntKind} {w : World} {B0 : Nat} {ty : TypeId} {A : Option Addr} {n c k : Nat} {bs : List UInt8} {K : (Option Addr × Nat × Nat) → WP} (hE : Elem P t e (.int .u8 0) 1) (hu : P.underlying tn = some (.int kn)) (ho : Own e w B0 A n c (bV bs)) (hB : B0 ≤ w.heap.size) (hn : 0 < n)
    (hlen : n + k ≤ 140737488355328)
    (hK : ∀ A' c' w', Own e w' B0 A' (n + k) c' (bV (bs ++ List.replicate k 0)) → Grew w w' (orow A) (orow A') → K (A', n + k, c') w') :
    runW P (Builtin.append_ #[t, tn] ty #[.slice A n c, .int .i64 (k : Int)]) .slc K w := by
  obtain ⟨ht, hi, hz⟩ := hE
  obtain ⟨i, hi, hii⟩ := Option.map_eq_some_iff.1 hi
  simp only [Prod.mk.injEq] at hii
  obtain ⟨hz0, hz1, hz2⟩ := hii
  have hxl : (bV bs).length = n := by simpa using ho.1
  rcases ho.2 with ⟨h1, h2⟩ | ⟨g, cap, cur, hv, hbg, hg, hnc, hcm, hcs, htake⟩
  · omega
  · injection hv with hv1 hv2 hv3
    subst hv1
    subst hv3
    simp only [maxLen] at hcm
    have hw : IntKind.i64.wrap (k : Int) = k := by rw [wrap_i64]; omega
                                                   omega
    have hneg : ¬ ((k : Int) < 0) := by omega
    have h48 : ¬ (281474976710656 < (k : Int) * (i.bytes : Int)) := by rw [hz2]; omega
    have hlen2 : (bV (bs ++ List.replicate k 0)).length = (n + k) * 1 := by rw [length_bV, List.length_append, List.length_replicate, Nat.mul_one, ← hxl, length_bV]
    by_cases hroom : n + k ≤ c
    · have hblk : Blk w g cur.toList e := by show w.heap[g]? = _; rw [hg]
      obtain ⟨hst, hbl, hgr⟩ := blk_put hblk (o := n) (vs := bV (List.replicate k 0)) (by rw [length_bV, List.length_replicate, Array.length_toList, hcs]; omega) (bV_one _)
      have hstore := run_storeCells (P := P) hst
      rw [length_bV, List.length_replicate] at hbl
      refine ⟨(some ⟨g, 0, none⟩, n + k, c), _, ?_, hK _ _ _ ⟨hlen2, .inr ⟨g, c, _, rfl, hbg, hbl, hroom, by simp only [maxLen]; omega, ?_, ?_⟩⟩ ⟨hgr, fun j hj => .inl hj⟩⟩
      · by_cases hk0 : k = 0
        · subst hk0
          have hw0 : IntKind.i64.wrap 0 = 0 := by decide
          simp [Builtin.append_, run_underlying ht, run_underlying hu, sizeOf, typeInfo, zeroValue, hi, hz0, hz1, hz2, asInt, asIntOf, hw0, hnc, storeCells, setCells, bV]
          rfl
        · have e1 : (Builtin.zeroCells #[Value.int .u8 0] k).toList = bV (List.replicate k 0) := toList_zeros k
          simp [Builtin.append_, run_underlying ht, run_underlying hu, sizeOf, typeInfo, zeroValue, hi, hz0, hz1, hz2, asInt, asIntOf, hw, hneg, show ¬ (281474976710656 < (k : Int)) by omega, hk0, hroom, add_mk, Value.cells, e1, hstore]
          rfl
      · simp only [List.size_toArray, List.length_append, List.length_take, List.length_drop, Array.length_toList, length_bV, List.length_replicate, hcs]
        omega
      · simp only [Nat.mul_one] at htake ⊢
        rw [htake, bV_append, ← hxl]
        have : ((bV bs).length + k) = (bV bs ++ bV (List.replicate k 0)).length := by simp [length_bV]
        rw [this, List.take_left]
    · have hold : (Builtin.firstCells i.size n (.slice (some ⟨g, 0, none⟩) n c)).run P w.drew = .ok (bV bs).toArray w.drew := by
        have hc := World.ownsRow.cells ho (g := g) rfl
        have hload := run_loadCells_list (P := P) w.drew ⟨g, 0, none⟩ (bV bs) (fun j v hj => hc j v hj)
        rw [hxl] at hload
        simp [Builtin.firstCells, hz1, hload]
      have hr := Go.Lib.run_append_grow_zeros (P := P) w t tn ty e i (.int .u8 0) .i64 kn ht hu hi hz0 (some ⟨g, 0, none⟩) n c (bV bs) hold k (by omega) (by omega) (by omega) (by omega) (by rw [hz2]; omega) (growslice_fits (by omega) (by rw [hz2]; omega))
      have hge := grownCap_ge w (n + k) c e
      have hcm2 := grownCap_le_maxLen w (n + k) c e (by simp only [maxLen]; omega)
      refine ⟨(some ⟨w.heap.size, 0, none⟩, n + k, grownCap w (n + k) c e), _, hr, hK _ _ _ ⟨hlen2, .inr ⟨w.heap.size, _, _, rfl, hB, heap_alloc_new w.drew _, hge, hcm2, ?_, ?_⟩⟩ ⟨⟨rfl, rfl, rfl, by simp, fun k hk _ => ((Ext.refl w.drew).alloc _).block k hk⟩, fun j hj => .inr (by injection hj with hj; exact Nat.le_of_eq hj)⟩⟩
      · have hz1' : (Value.int IntKind.u8 0).cells.size = 1 := rfl
        simp only [Array.size_append, List.size_toArray, size_zeroCells, hz1', hxl]
        omega
      · simp only [Array.toList_append, List.append_assoc, toList_zeros]
        rw [← List.append_assoc, ← bV_append, ← hlen2]
        exact List.take_left
theorem put_at (pre new : List UInt8) (k : Nat) (h : new.length ≤ k) : (pre ++ List.replicate k (0 : UInt8)).take pre.length ++ new ++ (pre ++ List.replicate k (0 : UInt8)).drop (pre.length + new.length) = (pre ++ new) ++ List.replicate (k - new.length) 0 := by
  rw [List.take_left, List.drop_append]
  simp [List.drop_of_length_le]
end Go.Proofs.YtjdmggaeagnolaaGreatDoor.V
/- []byte(s) of a string, written into: the row bears the mark of a conversion behind its cells. -/
namespace Go.Proofs.YtjdmggaeagnolaaGreatDoor.V
open Go Go.Proofs Go.RowKit
def BlkB (w : World) (b : Nat) (cs : List Value) (t : TypeId) : Prop := w.heap[b]? = some (.cells cs.toArray t (cs.length, cs.length + 1))
variable {w w' : World} {b : Nat} {cs : List Value} {t : TypeId}
theorem BlkB.cell (h : BlkB w b cs t) (o : Nat) : w.cell? ⟨b, o, none⟩ = cs[o]? := by simp [World.cell?, show w.heap[b]? = _ from h]
theorem BlkB.frozen (h : BlkB w b cs t) {o : Nat} (ho : o < cs.length) : w.frozen? ⟨b, o, none⟩ = false := by
  simp [World.frozen?, show w.heap[b]? = _ from h]
  omega
theorem BlkB.ext (h : BlkB w b cs t) (he : Ext w w') : BlkB w' b cs t := he.heap h
theorem BlkB.set (h : BlkB w b cs t) (o : Nat) (v : Value) : BlkB (w.setCell ⟨b, o, none⟩ v) b (cs.set o v) t := by
  obtain ⟨hlt, hk⟩ := Array.getElem?_eq_some_iff.1 h
  show (w.heap.modify b _)[b]? = _
  rw [Array.getElem?_eq_getElem (by rw [Array.size_modify]; exact hlt), Array.getElem_modify_self, hk]
  simp
theorem BlkB.setCells_from : ∀ (vs : List Value) (i : Nat) (w : World) (cs : List Value), BlkB w b cs t → i + vs.length ≤ cs.length → BlkB (setCells w ⟨b, 0, none⟩ i vs) b (cs.take i ++ vs ++ cs.drop (i + vs.length)) t
  | [], i, w, cs, h, _ => by simpa [setCells] using h
  | v :: r, i, w, cs, h, hl => by
    simp only [setCells, add_mk, Nat.zero_add]
    have h1 := h.set i v
    have h2 := BlkB.setCells_from r (i + 1) _ _ h1 (by simp only [List.length_set, List.length_cons] at hl ⊢; omega)
    have hlen : i < cs.length := by simp only [List.length_cons] at hl; omega
    have e : (cs.set i v).take (i + 1) ++ r ++ (cs.set i v).drop (i + 1 + r.length) = cs.take i ++ (v :: r) ++ cs.drop (i + (v :: r).length) := by
      rw [List.drop_set_of_lt (by omega), List.take_set, List.set_eq_take_append_cons_drop]
      have : i < (cs.take (i + 1)).length := by simp; omega
      rw [if_pos this]
      simp [List.take_take, Nat.min_eq_left (show i ≤ i + 1 by omega), Nat.add_comm, Nat.add_left_comm]
    rw [e] at h2
    exact h2
theorem BlkB.storable_from (h : BlkB w b cs t) : ∀ (vs : List Value) (i : Nat), i + vs.length ≤ cs.length → (∀ v ∈ vs, v.oneCell' = true) → Storable w ⟨b, 0, none⟩ i vs
  | [], _, _, _ => trivial
  | v :: r, i, hl, ho => by
    simp only [List.length_cons] at hl
    refine ⟨ho v List.mem_cons_self, ?_, ?_, BlkB.storable_from h r (i + 1) (by omega) (fun x hx => ho x (List.mem_cons_of_mem _ hx))⟩
    · rw [add_mk, h.cell]; exact ⟨_, List.getElem?_eq_getElem (by omega)⟩
    · rw [add_mk]; exact h.frozen (by omega)
theorem blkB_put {w : World} {b o : Nat} {cs vs : List Value} {t : TypeId} (h : BlkB w b cs t) (hl : o + vs.length ≤ cs.length) (hv : ∀ v ∈ vs, v.oneCell' = true) :
    Storable w ⟨b, o, none⟩ 0 vs ∧ BlkB (setCells w ⟨b, o, none⟩ 0 vs) b (cs.take o ++ vs ++ cs.drop (o + vs.length)) t ∧ w.grownBy (setCells w ⟨b, o, none⟩ 0 vs) (some b) := by
  refine ⟨storable_shift b o vs 0 w (h.storable_from vs o hl hv), ?_, ?_⟩
  · rw [setCells_shift]
    exact BlkB.setCells_from vs o w cs h hl
  · obtain ⟨m1, m2, m3⟩ := setCells_meta b vs 0 o w
    exact ⟨m1, m2, m3, by rw [setCells_size]; exact Nat.le_refl _, fun k hk hne => setCells_other b vs 0 o w k (fun e => hne (by rw [e]))⟩
theorem BlkB.sl {n : Nat} {vs rest : List Value} (h : BlkB w b (vs ++ rest) t) (hn : vs.length = n) (hm : n ≤ 9223372036854775807) : Sl w (some ⟨b, 0, none⟩) n vs := by
  refine ⟨hn, hm, fun _ => ⟨_, rfl, fun j v hj => ?_⟩⟩
  rw [add_mk, h.cell, Nat.zero_add, List.getElem?_append_left (List.getElem?_eq_some_iff.1 hj).1]
  exact hj
section
variable {P : Program} {e : TypeId} {z : Value} {bytes : Nat} {src dst : TypeId}
theorem conv_bytesB {w : World} {s : ByteArray} {u : TypeDesc} {K : (Option Addr × Nat × Nat) → WP} (hs : P.underlying src = some u) (hd : P.underlying dst = some (.slice e)) (he : P.underlying e = some (.int .u8))
    (hK : ∀ c w' rest, BlkB w' w.heap.size (bV (B s) ++ rest) e → Ext w w' → w'.heap.size = w.heap.size + 1 → s.size ≤ c → K (some ⟨w.heap.size, 0, none⟩, s.size, c) w') :
    runW P (convert src dst (.string s)) .slc K w := by
  refine ⟨(some ⟨w.heap.size, 0, none⟩, s.size, _), _, Go.Lib.run_convert_string_bytes w src dst e s hs hd he, hK _ _ (List.replicate (grownCap w s.size 0 e - s.size) (.int .u8 0)) ?_ ?_ (Go.Lib.bytesWorld_size w e s) ?_⟩
  · have hc : (Go.Lib.bytesCells w e s) = (bV (B s) ++ List.replicate (grownCap w s.size 0 e - s.size) (Value.int .u8 0)).toArray := by
      apply Array.toList_inj.1
      simp [Go.Lib.bytesCells, bV, B]
    have := Go.Lib.bytesWorld_at_new w e s
    rw [hc] at this
    unfold BlkB
    rw [this]
    rfl
  · exact ⟨rfl, rfl, rfl, by rw [Go.Lib.bytesWorld_size]; omega, fun k hk => Go.Lib.bytesWorld_at_old w e s k hk⟩
  · exact grownCap_ge _ _ _ _
theorem copy_strB {t : TypeId} {w : World} {b o n c : Nat} {ty u t2 : TypeId} {cs : List Value} {s : ByteArray} {K : Int → WP} (hE : Elem P t e z bytes) (hb : BlkB w b cs t2) (ho : o + n ≤ cs.length)
    (hK : ∀ w', BlkB w' b (cs.take o ++ bV ((B s).take n) ++ cs.drop (o + min (B s).length n)) t2 → w.grownBy w' (some b) → K ((min (B s).length n : Nat) : Int) w') :
    runW P (Builtin.copy_ #[t, u] ty #[.slice (some ⟨b, o, none⟩) n c, .string s]) (.int .i64) K w := by
  obtain ⟨ht, hi, hz⟩ := hE
  obtain ⟨i, hi, hii⟩ := Option.map_eq_some_iff.1 hi
  simp only [Prod.mk.injEq] at hii
  obtain ⟨hz0, hz1, hz2⟩ := hii
  have hsz := B_size s
  have hlen : (bV ((B s).take n)).length = min (B s).length n := by rw [length_bV, List.length_take, Nat.min_comm]
  obtain ⟨hst, hbl, hg⟩ := blkB_put hb (o := o) (vs := bV ((B s).take n)) (by rw [hlen]; omega) (bV_one _)
  rw [hlen] at hbl
  have hstore := run_storeCells (P := P) hst
  have e1 : List.take (if s.size ≤ n then s.size else n) (List.map (fun b => Value.int IntKind.u8 (b.toNat : Int)) s.data.toList) = bV ((B s).take n) := by
    rw [← Nat.min_def, hsz]
    show List.take _ (bV (B s)) = _
    rw [bV_take]
    congr 1
    rcases Nat.le_total (B s).length n with h | h
    · rw [Nat.min_eq_left h, List.take_length, List.take_of_length_le h]
    · rw [Nat.min_eq_right h]
  refine ⟨((min (B s).length n : Nat) : Int), _, ?_, hK _ hbl hg⟩
  rw [← hsz]
  simp [Builtin.copy_, run_underlying ht, sizeOf, typeInfo, hi, Builtin.lenOf, Builtin.firstCells, hstore, goInt, Nat.min_def, Lf.val]
  rw [e1, hstore]
  rfl
end
end Go.Proofs.YtjdmggaeagnolaaGreatDoor.V
/- Texts of mine, merged (wip/tool/mergep.py): S. -/
/- The shallow forms of the functions, by a program of mine (wip/tool/gen.py). -/
namespace Go.Proofs.YtjdmggaeagnolaaGreatDoor.V
open Go Go.Proofs
theorem mixed : Tryz.prog.follows .mixedOrders = true := by kernel_rfl
def an3 : Ann := (.seq .nil (.seq (.seq .nil (.cond (.seq .nil .nil) .nil)) (.seq (.seq .nil (.cond (.seq .nil .nil) .nil)) (.seq .nil (.seq (.seq .nil (.cond (.seq .nil .nil) .nil)) (.seq (.seq .nil (.block (.loop [(10, .sh (.one (.int .i64)))] [1, 2, 3, 4, 9, 1000000] (.seq (.seq .nil (.cond .nil .nil)) (.seq (.block .nil) .nil))))) (.seq .nil (.seq .nil (.join [(13, .sh (.one .str))] [2, 3, 4, 9, 11, 12, 1000000] (.seq .nil (.cond (.seq .nil (.seq (.seq .nil (.cond (.seq .nil .nil) .nil)) .nil)) .nil)) (.seq .nil (.join [(16, .sh (.one (.int .u32))), (17, .sh (.one .str))] [2, 3, 4, 9, 11, 12, 13, 1000000] (.seq .nil (.cond (.seq .nil .nil) .nil)) (.seq .nil (.seq .nil (.seq .nil (.seq .nil (.seq .nil (.seq .nil (.seq (.seq .nil (.block (.loop [(25, .sh (.one (.int .i64)))] [4, 9, 11, 12, 13, 16, 17, 18, 20, 22, 23, 24, 1000000] (.seq (.seq .nil (.cond .nil .nil)) (.seq (.block (.seq .nil .nil)) .nil))))) (.seq .nil (.seq (.seq .nil (.cond (.seq .nil .nil) .nil)) (.join [] [11, 12, 13, 16, 17, 22, 26, 1000000] (.seq .nil (.cond (.seq .nil .nil) .nil)) (.seq .nil (.seq (.seq .nil (.cond (.seq .nil .nil) .nil)) (.seq (.seq .nil (.block (.seq .nil (.cond (.seq .nil .nil) (.seq .nil (.cond (.seq .nil .nil) .nil)))))) (.seq .nil .nil)))))))))))))))))))))))))
def S3 (x0_0 : Int) (x0_1 : Int) (a1 : Option Addr) (n1 c1 : Nat) (x2 : Int) (a3 : Option Addr) (n3 c3 : Nat) (K : Value → WP) : WP := 
 newW (.cells #[(.int .i64 x0_0), (.int .i64 x0_1)] 23) fun (r1 : Nat) =>
 callW Tryz.prog 4 [] (.one (.one .bool)) fun (u2 : Bool) =>
 splitW (!u2) (K (.bool false)) <|
 ldAW [(.int .i64), (.int .i64)] (⟨r1, 0, none⟩ : Addr) fun (u3 : (Int × Int × Unit)) =>
 callW Tryz.prog 5 [(.agg #[(.int .i64 u3.1), (.int .i64 u3.2.1)])] (.one (.one .bool)) fun (u4 : Bool) =>
 splitW (!u4) (K (.bool true)) <|
 callW Tryz.prog 6 [(.slice a1 n1 c1)] (.one (.one .bool)) fun (u5 : Bool) =>
 splitW (!u5) (K (.bool true)) <|
 splitW (decide (((n3 : Nat) : Int) > (40 : Int))) (K (.bool true)) <|
 ldAW [(.int .i64), (.int .i64)] (⟨r1, 0, none⟩ : Addr) fun (u6 : (Int × Int × Unit)) =>
 callW Tryz.prog 7 [(.agg #[(.int .i64 u6.1), (.int .i64 u6.2.1)])] (.one (.one .ptr)) fun (u7 : Option Addr) =>
 splitW (Option.isNone u7) (K (.bool true)) <|
 loopW (Int × Unit) ((0 : Int), ()) fun (y9 : Int × Unit) (I8 : (Int × Unit) → WP) =>
 splitW (decide (y9.1 < ((n1 : Nat) : Int))) (guardW (0 ≤ y9.1 ∧ y9.1 < ((n1 : Nat) : Int)) <|
 ptrW a1 fun (p10 : Addr) =>
 ldAW [(.int .i64), (.int .u8), (.int .i64), (.int .i64), .str] (p10.add (Int.toNat y9.1 * 5)) fun (u11 : (Int × Int × Int × Int × ByteArray × Unit)) =>
 callW Tryz.prog 8 [(.pointer u7), (.agg #[(.int .i64 u11.1), (.int .u8 u11.2.1), (.int .i64 u11.2.2.1), (.int .i64 u11.2.2.2.1), (.string u11.2.2.2.2.1)])] (.many [(.one (.int .u32)), (.one (.int .i64))]) fun (u12 : Int × Int × Unit) => I8 ((IntKind.wrap .i64 (y9.1 + (1 : Int))), ())) <|
 drewW <|
 ptrW u7 fun (p13 : Addr) =>
 ldW .ptr (p13.add 1) fun (u14 : Option Addr) =>
 ptrW u7 fun (p15 : Addr) =>
 ldW (.int .u32) (p15.add 6) fun (u16 : Int) =>
 callW Tryz.prog 9 [(.pointer u14)] (.one (.one (.int .u64))) fun (u17 : Int) =>
 heldW [[((p15.add 6), (.int .u32 u16))]] <|
 joinW (ByteArray × Unit) (fun (J18 : (ByteArray × Unit) → WP) =>
 splitW (u16 != (0 : Int)) (ptrW u7 fun (p20 : Addr) =>
 ldW .ptr p20 fun (u21 : Option Addr) =>
 callW Tryz.prog 10 [(.pointer u21)] (.many [(.one .ptr), (.one (.int .i64))]) fun (u22 : Option Addr × Int × Unit) =>
 splitW (u22.2.1 != (0 : Int)) (K (.bool false)) <|
 callW Tryz.prog 11 [(.pointer u22.1), (.int .u32 u16), (.int .i64 (6 : Int))] (.one (.one .str)) fun (u23 : ByteArray) => J18 (u23, ())) <| J18 ((ByteArray.mk #[]), ())) fun (y19 : ByteArray × Unit) =>
 joinW (Int × ByteArray × Unit) (fun (J24 : (Int × ByteArray × Unit) → WP) =>
 ptrW u7 fun (p26 : Addr) =>
 ldW .slc (p26.add 2) fun (u27 : (Option Addr × Nat × Nat)) =>
 splitW (decide (((u27.2.1 : Nat) : Int) > (0 : Int))) (drewW <|
 ptrW u7 fun (p28 : Addr) =>
 ldW .slc (p28.add 2) fun (u29 : (Option Addr × Nat × Nat)) =>
 ptrW u7 fun (p30 : Addr) =>
 ldW .slc (p30.add 2) fun (u31 : (Option Addr × Nat × Nat)) =>
 guardW (0 ≤ (IntKind.wrap .i64 (((u31.2.1 : Nat) : Int) - (1 : Int))) ∧ (IntKind.wrap .i64 (((u31.2.1 : Nat) : Int) - (1 : Int))) < ((u29.2.1 : Nat) : Int)) <|
 ptrW u29.1 fun (p32 : Addr) =>
 ldW (.int .u32) (p32.add (Int.toNat (IntKind.wrap .i64 (((u31.2.1 : Nat) : Int) - (1 : Int))) * 1)) fun (u33 : Int) =>
 ptrW u7 fun (p34 : Addr) =>
 ldW .ptr (p34.add 1) fun (u35 : Option Addr) =>
 callW Tryz.prog 11 [(.pointer u35), (.int .u32 u33), (.int .i64 (6 : Int))] (.one (.one .str)) fun (u36 : ByteArray) => J24 (u33, u36, ())) <| J24 ((0 : Int), (ByteArray.mk #[]), ())) fun (y25 : Int × ByteArray × Unit) =>
 ptrW u7 fun (p37 : Addr) =>
 ldW .ptr p37 fun (u38 : Option Addr) =>
 callW Tryz.prog 12 [(.pointer u38), (.int .i64 (0 : Int))] (.many [(.one .str), (.one (.int .i64))]) fun (u39 : ByteArray × Int × Unit) =>
 ptrW u7 fun (p40 : Addr) =>
 ldW .ptr p40 fun (u41 : Option Addr) =>
 callW Tryz.prog 12 [(.pointer u41), (.int .i64 (1 : Int))] (.many [(.one .str), (.one (.int .i64))]) fun (u42 : ByteArray × Int × Unit) =>
 drewW <|
 ptrW u7 fun (p43 : Addr) =>
 ldW .ptr p43 fun (u44 : Option Addr) =>
 callW Tryz.prog 14 [(.int .i64 x2), (.int .i64 (12 : Int))] (.one (.one (.int .i64))) fun (u45 : Int) =>
 heldW [[(p43, (.pointer u44))]] <|
 callW Tryz.prog 13 [(.pointer u44), (.int .i64 u45)] .none fun (u46 : Unit) =>
 ptrW u7 fun (p47 : Addr) =>
 ldW .ptr (p47.add 1) fun (u48 : Option Addr) =>
 callW Tryz.prog 15 [(.pointer u48), (.int .u32 y25.1)] (.one (.one (.int .i64))) fun (u49 : Int) =>
 ptrW u7 fun (p50 : Addr) =>
 ldW .ptr p50 fun (u51 : Option Addr) =>
 callW Tryz.prog 16 [(.pointer u51)] (.one (.one .slc)) fun (u52 : (Option Addr × Nat × Nat)) =>
 callW Tryz.prog 17 [(.slice a3 n3 c3)] (.one (.one .slc)) fun (u53 : (Option Addr × Nat × Nat)) =>
 loopW (Int × Unit) ((0 : Int), ()) fun (y55 : Int × Unit) (I54 : (Int × Unit) → WP) =>
 splitW (decide (y55.1 < ((u53.2.1 : Nat) : Int))) (drewW <|
 guardW (0 ≤ y55.1 ∧ y55.1 < ((u53.2.1 : Nat) : Int)) <|
 ptrW u53.1 fun (p56 : Addr) =>
 ldW (.int .i64) (p56.add (Int.toNat y55.1 * 2)) fun (u57 : Int) =>
 ptrW u7 fun (p58 : Addr) =>
 ldW .ptr p58 fun (u59 : Option Addr) =>
 callW Tryz.prog 16 [(.pointer u59)] (.one (.one .slc)) fun (u60 : (Option Addr × Nat × Nat)) =>
 heldW [[((p56.add (Int.toNat y55.1 * 2)), (.int .i64 u57))]] <|
 callW Tryz.prog 14 [(.int .i64 u57), (.int .i64 ((u60.2.1 : Nat) : Int))] (.one (.one (.int .i64))) fun (u61 : Int) =>
 guardW (0 ≤ y55.1 ∧ y55.1 < ((u53.2.1 : Nat) : Int)) <|
 ptrW u53.1 fun (p62 : Addr) =>
 stW (p62.add (Int.toNat y55.1 * 2)) (.int .i64 u61) <|
 drewW <|
 guardW (0 ≤ y55.1 ∧ y55.1 < ((u53.2.1 : Nat) : Int)) <|
 ptrW u53.1 fun (p63 : Addr) =>
 ldW (.int .u64) ((p63.add (Int.toNat y55.1 * 2)).add 1) fun (u64 : Int) =>
 ldW (.int .i64) (⟨r1, 0, none⟩ : Addr) fun (u65 : Int) =>
 guardW (0 ≤ (IntKind.wrap .u64 (IntKind.wrap .i64 (Int.tdiv u65 (64 : Int))))) <|
 guardW (0 ≤ y55.1 ∧ y55.1 < ((u53.2.1 : Nat) : Int)) <|
 ptrW u53.1 fun (p66 : Addr) =>
 stW ((p66.add (Int.toNat y55.1 * 2)).add 1) (.int .u64 (iand .u64 u64 (IntKind.wrap .u64 ((ishl .u64 (1 : Int) (IntKind.wrap .u64 (IntKind.wrap .i64 (Int.tdiv u65 (64 : Int))))) - (1 : Int))))) <| I54 ((IntKind.wrap .i64 (y55.1 + (1 : Int))), ())) <|
 ptrW u7 fun (p67 : Addr) =>
 ldW .ptr p67 fun (u68 : Option Addr) =>
 callW Tryz.prog 18 [(.pointer u68), (.slice u53.1 u53.2.1 u53.2.2)] (.many [(.one .ptr), (.one (.int .i64))]) fun (u69 : Option Addr × Int × Unit) =>
 splitW (u69.2.1 != (0 : Int)) (K (.bool true)) <|
 joinW (Unit) (fun (J70 : (Unit) → WP) =>
 splitW (u49 != (0 : Int)) (callW Tryz.prog 19 [(.pointer u69.1), (.int .i64 (0 : Int)), (.string u39.1), (.slice u52.1 u52.2.1 u52.2.2)] (.one (.one .bool)) fun (u72 : Bool) =>
 splitW u72 (K (.bool true)) <|
 callW Tryz.prog 19 [(.pointer u69.1), (.int .i64 (1 : Int)), (.string u42.1), (.slice u52.1 u52.2.1 u52.2.2)] (.one (.one .bool)) fun (u73 : Bool) =>
 splitW u73 (K (.bool true)) <| J70 ()) <| J70 ()) fun (y71 : Unit) =>
 callW Tryz.prog 10 [(.pointer u69.1)] (.many [(.one .ptr), (.one (.int .i64))]) fun (u74 : Option Addr × Int × Unit) =>
 splitW (u74.2.1 != (0 : Int)) (K (.bool false)) <|
 callW Tryz.prog 9 [(.pointer u74.1)] (.one (.one (.int .u64))) fun (u75 : Int) =>
 splitW (u75 == u17) (splitW (u49 != (0 : Int)) (callW Tryz.prog 20 [(.pointer u74.1)] (.one (.one (.int .u32))) fun (u76 : Int) =>
 splitW (u76 == u16) (splitW (u16 == (0 : Int)) (K (.bool true)) <|
 callW Tryz.prog 11 [(.pointer u74.1), (.int .u32 u16), (.int .i64 (6 : Int))] (.one (.one .str)) fun (u77 : ByteArray) => K (.bool (u77.toList == y19.1.toList))) <| K (.bool false)) <| K (.bool false)) <|
 splitW (u75 == (IntKind.wrap .u64 (u17 + (1 : Int)))) (callW Tryz.prog 20 [(.pointer u74.1)] (.one (.one (.int .u32))) fun (u78 : Int) =>
 splitW (u78 == y25.1) (splitW (y25.1 == (0 : Int)) (K (.bool true)) <|
 callW Tryz.prog 11 [(.pointer u74.1), (.int .u32 y25.1), (.int .i64 (6 : Int))] (.one (.one .str)) fun (u79 : ByteArray) => K (.bool (u79.toList == y25.2.1.toList))) <| K (.bool false)) <| K (.bool false)
theorem eq3 (x0_0 : Int) (x0_1 : Int) (a1 : Option Addr) (n1 c1 : Nat) (x2 : Int) (a3 : Option Addr) (n3 c3 : Nat) (K : Value → WP) : bodyW Tryz.prog Tryz.f3 an3 false [(.agg #[(.int .i64 x0_0), (.int .i64 x0_1)]), (.slice a1 n1 c1), (.int .i64 x2), (.slice a3 n3 c3)] K = S3 x0_0 x0_1 a1 n1 c1 x2 a3 n3 c3 K := by kernel_rfl
theorem calls3 (x0_0 : Int) (x0_1 : Int) (a1 : Option Addr) (n1 c1 : Nat) (x2 : Int) (a3 : Option Addr) (n3 c3 : Nat) {K : Value → WP} {w : World} (h : S3 x0_0 x0_1 a1 n1 c1 x2 a3 n3 c3 K w) : Calls Tryz.prog 3 #[(.agg #[(.int .i64 x0_0), (.int .i64 x0_1)]), (.slice a1 n1 c1), (.int .i64 x2), (.slice a3 n3 c3)] w (Ret K) := callsR_of_bodyW mixed Tryz.func3 (of_decide_eq_true (by kernel_rfl)) (by rw [eq3]; exact h)
def an4 : Ann := (.seq .nil (.seq .nil (.seq (.seq .nil (.cond (.seq .nil .nil) .nil)) (.seq .nil (.seq .nil (.seq .nil (.seq .nil (.seq .nil (.seq (.seq .nil (.cond (.seq .nil .nil) .nil)) (.seq .nil (.seq .nil (.seq .nil (.seq .nil (.seq .nil .nil))))))))))))))
def S4  (K : Value → WP) : WP := 
 callW Tryz.prog 22 [] (.one (.agg [(.int .i64), (.int .i64)])) fun (u1 : (Int × Int × Unit)) =>
 callW Tryz.prog 21 [(.agg #[(.int .i64 u1.1), (.int .i64 u1.2.1)])] (.many [(.one .ptr), (.one .ptr)]) fun (u2 : Option Addr × Option Addr × Unit) =>
 splitW (Option.isNone u2.1) (K (.bool false)) <|
 splitW (Option.isNone u2.2.1) (K (.bool false)) <|
 callW Tryz.prog 23 [(.pointer u2.2.1)] (.one (.one (.int .i64))) fun (u3 : Int) =>
 callW Tryz.prog 24 [(.pointer u2.2.1), (.agg #[(.int .u8 (4 : Int)), (.slice none 0 0), (.string (ByteArray.mk #[120]))])] (.many [(.one (.int .u32)), (.one (.int .i64))]) fun (u4 : Int × Int × Unit) =>
 newW (.cells #[(.int .u32 u4.1)] 31) fun (r5 : Nat) =>
 callW Tryz.prog 24 [(.pointer u2.2.1), (.agg #[(.int .u8 (3 : Int)), (.slice (some (⟨r5, 0, none⟩ : Addr)) 1 1), (.string ByteArray.empty)])] (.many [(.one (.int .u32)), (.one (.int .i64))]) fun (u6 : Int × Int × Unit) =>
 callW Tryz.prog 15 [(.pointer u2.2.1), (.int .u32 u6.1)] (.one (.one (.int .i64))) fun (u7 : Int) =>
 callW Tryz.prog 10 [(.pointer u2.1)] (.many [(.one .ptr), (.one (.int .i64))]) fun (u8 : Option Addr × Int × Unit) =>
 splitW (u4.2.1 != (0 : Int)) (K (.bool false)) <|
 splitW (u6.2.1 != (0 : Int)) (K (.bool false)) <|
 splitW (u7 != (0 : Int)) (K (.bool false)) <|
 splitW (u8.2.1 != (0 : Int)) (K (.bool false)) <|
 splitW (Option.isNone u8.1) (K (.bool false)) <|
 callW Tryz.prog 20 [(.pointer u8.1)] (.one (.one (.int .u32))) fun (u9 : Int) =>
 callW Tryz.prog 25 [(.pointer u8.1), (.int .u32 u9)] (.many [(.agg [(.int .u8), .slc, .str]), (.one (.int .i64))]) fun (u10 : (Int × (Option Addr × Nat × Nat) × ByteArray × Unit) × Int × Unit) =>
 newW (.cells #[(.int .u8 (0 : Int)), (.slice none 0 0), (.string ByteArray.empty)] 69) fun (r11 : Nat) =>
 guardW ((#[(.int .u8 u10.1.1), (.slice u10.1.2.1.1 u10.1.2.1.2.1 u10.1.2.1.2.2), (.string u10.1.2.2.1)] : Array Value).size = 3) <|
 stAW (⟨r11, 0, none⟩ : Addr) [(.int .u8 u10.1.1), (.slice u10.1.2.1.1 u10.1.2.1.2.1 u10.1.2.1.2.2), (.string u10.1.2.2.1)] <|
 callW Tryz.prog 24 [(.pointer u8.1), (.agg #[(.int .u8 (4 : Int)), (.slice none 0 0), (.string ByteArray.empty)])] (.many [(.one (.int .u32)), (.one (.int .i64))]) fun (u12 : Int × Int × Unit) =>
 callW Tryz.prog 23 [(.pointer u8.1)] (.one (.one (.int .i64))) fun (u13 : Int) =>
 callW Tryz.prog 26 [(.pointer u8.1), (.int .u32 u12.1)] (.one (.one (.int .i64))) fun (u14 : Int) =>
 splitW (u3 == (9 : Int)) (splitW (u10.2.1 == (0 : Int)) (ldAW [(.int .u8), .slc, .str] (⟨r11, 0, none⟩ : Addr) fun (u15 : (Int × (Option Addr × Nat × Nat) × ByteArray × Unit)) =>
 newW (.cells #[(.int .u32 u4.1)] 31) fun (r16 : Nat) =>
 callW Tryz.prog 27 [(.agg #[(.int .u8 u15.1), (.slice u15.2.1.1 u15.2.1.2.1 u15.2.1.2.2), (.string u15.2.2.1)]), (.agg #[(.int .u8 (3 : Int)), (.slice (some (⟨r16, 0, none⟩ : Addr)) 1 1), (.string ByteArray.empty)])] (.one (.one .bool)) fun (u17 : Bool) =>
 splitW u17 (callW Tryz.prog 9 [(.pointer u8.1)] (.one (.one (.int .u64))) fun (u18 : Int) =>
 splitW (u18 == (2 : Int)) (splitW (u12.2.1 == (0 : Int)) (splitW (u14 == (0 : Int)) (callW Tryz.prog 23 [(.pointer u8.1)] (.one (.one (.int .i64))) fun (u19 : Int) => K (.bool (u19 == (IntKind.wrap .i64 (u13 + (1 : Int)))))) <| K (.bool false)) <| K (.bool false)) <| K (.bool false)) <| K (.bool false)) <| K (.bool false)) <| K (.bool false)
theorem eq4  (K : Value → WP) : bodyW Tryz.prog Tryz.f4 an4 false [] K = S4  K := by kernel_rfl
theorem calls4  {K : Value → WP} {w : World} (h : S4  K w) : Calls Tryz.prog 4 #[] w (Ret K) := callsR_of_bodyW mixed Tryz.func4 (of_decide_eq_true (by kernel_rfl)) (by rw [eq4]; exact h)
def an5 : Ann := (.seq .nil (.seq (.seq .nil (.cond (.seq .nil .nil) .nil)) (.seq .nil .nil)))
def S5 (x0_0 : Int) (x0_1 : Int) (K : Value → WP) : WP := 
 newW (.cells #[(.int .i64 x0_0), (.int .i64 x0_1)] 23) fun (r1 : Nat) =>
 ldW (.int .i64) (⟨r1, 0, none⟩ : Addr) fun (u2 : Int) =>
 splitW (decide (u2 < (128 : Int))) (K (.bool true)) <|
 ldW (.int .i64) (⟨r1, 0, none⟩ : Addr) fun (u3 : Int) =>
 splitW (decide (u3 > (4096 : Int))) (K (.bool true)) <|
 ldW (.int .i64) ((⟨r1, 0, none⟩ : Addr).add 1) fun (u4 : Int) =>
 splitW (decide (u4 < (8 : Int))) (K (.bool true)) <|
 ldW (.int .i64) ((⟨r1, 0, none⟩ : Addr).add 1) fun (u5 : Int) =>
 splitW (decide (u5 > (4096 : Int))) (K (.bool true)) <|
 ldW (.int .i64) (⟨r1, 0, none⟩ : Addr) fun (u6 : Int) =>
 splitW (decide (u6 ≤ (512 : Int))) (ldW (.int .i64) ((⟨r1, 0, none⟩ : Addr).add 1) fun (u7 : Int) => K (.bool (decide (u7 ≤ (40 : Int))))) <| K (.bool false)
theorem eq5 (x0_0 : Int) (x0_1 : Int) (K : Value → WP) : bodyW Tryz.prog Tryz.f5 an5 false [(.agg #[(.int .i64 x0_0), (.int .i64 x0_1)])] K = S5 x0_0 x0_1 K := by kernel_rfl
theorem calls5 (x0_0 : Int) (x0_1 : Int) {K : Value → WP} {w : World} (h : S5 x0_0 x0_1 K w) : Calls Tryz.prog 5 #[(.agg #[(.int .i64 x0_0), (.int .i64 x0_1)])] w (Ret K) := callsR_of_bodyW mixed Tryz.func5 (of_decide_eq_true (by kernel_rfl)) (by rw [eq5]; exact h)
def an6 : Ann := (.seq .nil (.seq (.seq .nil (.block (.loop [(3, .sh (.one (.int .i64)))] [0, 1000000] (.seq (.seq .nil (.cond .nil .nil)) (.seq (.block (.seq .nil (.cond (.seq .nil .nil) .nil))) .nil))))) (.seq .nil .nil)))
def S6 (a0 : Option Addr) (n0 c0 : Nat) (K : Value → WP) : WP := 
 loopW (Int × Unit) ((0 : Int), ()) fun (y2 : Int × Unit) (I1 : (Int × Unit) → WP) =>
 splitW (decide (y2.1 < ((n0 : Nat) : Int))) (guardW (0 ≤ y2.1 ∧ y2.1 < ((n0 : Nat) : Int)) <|
 ptrW a0 fun (p3 : Addr) =>
 ldW .str ((p3.add (Int.toNat y2.1 * 5)).add 4) fun (u4 : ByteArray) =>
 splitW (decide (((u4.size : Nat) : Int) > (600 : Int))) (K (.bool false)) <| I1 ((IntKind.wrap .i64 (y2.1 + (1 : Int))), ())) <| K (.bool (decide (((n0 : Nat) : Int) ≤ (60 : Int))))
theorem eq6 (a0 : Option Addr) (n0 c0 : Nat) (K : Value → WP) : bodyW Tryz.prog Tryz.f6 an6 false [(.slice a0 n0 c0)] K = S6 a0 n0 c0 K := by kernel_rfl
theorem calls6 (a0 : Option Addr) (n0 c0 : Nat) {K : Value → WP} {w : World} (h : S6 a0 n0 c0 K w) : Calls Tryz.prog 6 #[(.slice a0 n0 c0)] w (Ret K) := callsR_of_bodyW mixed Tryz.func6 (of_decide_eq_true (by kernel_rfl)) (by rw [eq6]; exact h)
def an7 : Ann := (.seq .nil (.seq .nil (.seq (.seq .nil (.cond (.seq .nil .nil) .nil)) (.seq .nil .nil))))
def S7 (x0_0 : Int) (x0_1 : Int) (K : Value → WP) : WP := 
 newW (.cells #[(.int .i64 x0_0), (.int .i64 x0_1)] 23) fun (r1 : Nat) =>
 ldAW [(.int .i64), (.int .i64)] (⟨r1, 0, none⟩ : Addr) fun (u2 : (Int × Int × Unit)) =>
 callW Tryz.prog 21 [(.agg #[(.int .i64 u2.1), (.int .i64 u2.2.1)])] (.many [(.one .ptr), (.one .ptr)]) fun (u3 : Option Addr × Option Addr × Unit) =>
 splitW (Option.isNone u3.2.1) (K (.pointer none)) <|
 newW (.cells #[(.pointer u3.1), (.pointer u3.2.1), (.slice none 0 0), (.slice none 0 0), (.slice none 0 0), (.bool false), (.int .u32 (0 : Int))] 42) fun (r4 : Nat) => K (.pointer (some (⟨r4, 0, none⟩ : Addr)))
theorem eq7 (x0_0 : Int) (x0_1 : Int) (K : Value → WP) : bodyW Tryz.prog Tryz.f7 an7 false [(.agg #[(.int .i64 x0_0), (.int .i64 x0_1)])] K = S7 x0_0 x0_1 K := by kernel_rfl
theorem calls7 (x0_0 : Int) (x0_1 : Int) {K : Value → WP} {w : World} (h : S7 x0_0 x0_1 K w) : Calls Tryz.prog 7 #[(.agg #[(.int .i64 x0_0), (.int .i64 x0_1)])] w (Ret K) := callsR_of_bodyW mixed Tryz.func7 (of_decide_eq_true (by kernel_rfl)) (by rw [eq7]; exact h)
def an8 : Ann := (.seq .nil (.seq .nil (.join [] [1000000] (.seq .nil (.block (.join [(24, .sh (.one .bool))] [0, 3, 6, 23, 1000000] (.seq .nil (.cond .nil (.seq .nil (.cond .nil .nil)))) (.cond (.seq .nil (.seq .nil (.seq (.seq .nil (.cond .nil .nil)) (.seq .nil .nil)))) (.seq .nil (.cond (.seq .nil (.cond (.seq .nil (.seq (.seq .nil (.cond .nil .nil)) (.seq .nil .nil))) .nil)) (.seq .nil (.cond (.seq .nil (.cond (.seq .nil (.seq .nil (.seq .nil .nil))) .nil)) (.seq .nil (.cond (.seq .nil (.join [(12, .sh (.one (.int .u32)))] [0, 1000000] (.seq .nil (.cond .nil .nil)) (.seq .nil (.seq (.seq .nil (.cond .nil .nil)) (.seq .nil .nil))))) (.seq .nil (.cond (.seq .nil (.seq .nil (.seq .nil .nil))) (.seq .nil (.cond (.seq .nil .nil) (.seq .nil (.cond (.seq .nil (.seq (.seq .nil (.cond .nil .nil)) (.seq .nil .nil))) .nil)))))))))))))))) (.seq .nil .nil))))
def S8 (x0 : Option Addr) (x1_0 : Int) (x1_1 : Int) (x1_2 : Int) (x1_3 : Int) (x1_4 : ByteArray) (K : Value → WP) : WP := 
 newW (.cells #[(.int .i64 x1_0), (.int .u8 x1_1), (.int .i64 x1_2), (.int .i64 x1_3), (.string x1_4)] 36) fun (r1 : Nat) =>
 ldW (.int .i64) ((⟨r1, 0, none⟩ : Addr).add 3) fun (u2 : Int) =>
 callW Tryz.prog 28 [(.pointer x0), (.int .i64 u2)] (.one (.one (.int .i64))) fun (u3 : Int) =>
 joinW (Unit) (fun (J4 : (Unit) → WP) =>
 ldW (.int .i64) (⟨r1, 0, none⟩ : Addr) fun (u6 : Int) =>
 callW Tryz.prog 14 [(.int .i64 u6), (.int .i64 (10 : Int))] (.one (.one (.int .i64))) fun (u7 : Int) =>
 joinW (Bool × Unit) (fun (J8 : (Bool × Unit) → WP) =>
 splitW (u7 == (0 : Int)) (J8 ((u7 == (0 : Int)), ())) <|
 splitW (u7 == (1 : Int)) (J8 ((u7 == (1 : Int)), ())) <| J8 ((u7 == (2 : Int)), ())) fun (y9 : Bool × Unit) =>
 splitW y9.1 (ldAW [(.int .i64), (.int .u8), (.int .i64), (.int .i64), .str] (⟨r1, 0, none⟩ : Addr) fun (u10 : (Int × Int × Int × Int × ByteArray × Unit)) =>
 callW Tryz.prog 29 [(.pointer x0), (.agg #[(.int .i64 u10.1), (.int .u8 u10.2.1), (.int .i64 u10.2.2.1), (.int .i64 u10.2.2.2.1), (.string u10.2.2.2.2.1)])] (.one (.agg [(.int .u8), .slc, .str])) fun (u11 : (Int × (Option Addr × Nat × Nat) × ByteArray × Unit)) =>
 newW (.cells #[(.int .u8 (0 : Int)), (.slice none 0 0), (.string ByteArray.empty)] 69) fun (r12 : Nat) =>
 guardW ((#[(.int .u8 u11.1), (.slice u11.2.1.1 u11.2.1.2.1 u11.2.1.2.2), (.string u11.2.2.1)] : Array Value).size = 3) <|
 stAW (⟨r12, 0, none⟩ : Addr) [(.int .u8 u11.1), (.slice u11.2.1.1 u11.2.1.2.1 u11.2.1.2.2), (.string u11.2.2.1)] <|
 drewW <|
 ptrW x0 fun (p13 : Addr) =>
 ldW .ptr (p13.add 1) fun (u14 : Option Addr) =>
 ldAW [(.int .u8), .slc, .str] (⟨r12, 0, none⟩ : Addr) fun (u15 : (Int × (Option Addr × Nat × Nat) × ByteArray × Unit)) =>
 callW Tryz.prog 24 [(.pointer u14), (.agg #[(.int .u8 u15.1), (.slice u15.2.1.1 u15.2.1.2.1 u15.2.1.2.2), (.string u15.2.2.1)])] (.many [(.one (.int .u32)), (.one (.int .i64))]) fun (u16 : Int × Int × Unit) =>
 splitW (u16.2.1 == (0 : Int)) (drewW <|
 ptrW x0 fun (p17 : Addr) =>
 ldW .slc (p17.add 2) fun (u18 : (Option Addr × Nat × Nat)) =>
 ptrW x0 fun (p19 : Addr) =>
 ldW .slc (p19.add 2) fun (u20 : (Option Addr × Nat × Nat)) =>
 ldW .slc ((⟨r12, 0, none⟩ : Addr).add 1) fun (u21 : (Option Addr × Nat × Nat)) =>
 guardW (0 ≤ (IntKind.wrap .i64 (((u20.2.1 : Nat) : Int) - ((u21.2.1 : Nat) : Int))) ∧ (IntKind.wrap .i64 (((u20.2.1 : Nat) : Int) - ((u21.2.1 : Nat) : Int))) ≤ ((u18.2.2 : Nat) : Int)) <|
 bothW (callW Tryz.prog 30 [(.slice (cutAddr u18.1 0 u18.2.2 1) (Int.toNat (IntKind.wrap .i64 (((u20.2.1 : Nat) : Int) - ((u21.2.1 : Nat) : Int)))) u18.2.2)] (.one (.one .slc)) fun (u22 : (Option Addr × Nat × Nat)) =>
 newW (.cells #[(.int .u32 u16.1)] 31) fun (r23 : Nat) =>
 heldW [[(((⟨r12, 0, none⟩ : Addr).add 1), (.slice u21.1 u21.2.1 u21.2.2))], [((p19.add 2), (.slice u20.1 u20.2.1 u20.2.2))], [((p17.add 2), (.slice u18.1 u18.2.1 u18.2.2))]] <|
 runW Tryz.prog (Builtin.append_ #[40, 40] 40 #[(.slice u22.1 u22.2.1 u22.2.2), (.slice (some (⟨r23, 0, none⟩ : Addr)) 1 1)]) .slc fun (u24 : (Option Addr × Nat × Nat)) =>
 ptrW x0 fun (p25 : Addr) =>
 stW (p25.add 2) (.slice u24.1 u24.2.1 u24.2.2) <| K (.tuple #[(.int .u32 u16.1), (.int .i64 u16.2.1)])) <|
 newW (.cells #[(.int .u32 u16.1)] 31) fun (r26 : Nat) =>
 heldW [[(((⟨r12, 0, none⟩ : Addr).add 1), (.slice u21.1 u21.2.1 u21.2.2))], [((p19.add 2), (.slice u20.1 u20.2.1 u20.2.2))], [((p17.add 2), (.slice u18.1 u18.2.1 u18.2.2))]] <|
 callW Tryz.prog 30 [(.slice (cutAddr u18.1 0 u18.2.2 1) (Int.toNat (IntKind.wrap .i64 (((u20.2.1 : Nat) : Int) - ((u21.2.1 : Nat) : Int)))) u18.2.2)] (.one (.one .slc)) fun (u27 : (Option Addr × Nat × Nat)) =>
 runW Tryz.prog (Builtin.append_ #[40, 40] 40 #[(.slice u27.1 u27.2.1 u27.2.2), (.slice (some (⟨r26, 0, none⟩ : Addr)) 1 1)]) .slc fun (u28 : (Option Addr × Nat × Nat)) =>
 ptrW x0 fun (p29 : Addr) =>
 stW (p29.add 2) (.slice u28.1 u28.2.1 u28.2.2) <| K (.tuple #[(.int .u32 u16.1), (.int .i64 u16.2.1)])) <| K (.tuple #[(.int .u32 u16.1), (.int .i64 u16.2.1)])) <|
 splitW (u7 == (4 : Int)) (splitW (decide (u3 ≥ (0 : Int))) (drewW <|
 ptrW x0 fun (p30 : Addr) =>
 ldW .ptr (p30.add 1) fun (u31 : Option Addr) =>
 ptrW x0 fun (p32 : Addr) =>
 ldW .slc (p32.add 2) fun (u33 : (Option Addr × Nat × Nat)) =>
 guardW (0 ≤ u3 ∧ u3 < ((u33.2.1 : Nat) : Int)) <|
 ptrW u33.1 fun (p34 : Addr) =>
 ldW (.int .u32) (p34.add (Int.toNat u3 * 1)) fun (u35 : Int) =>
 callW Tryz.prog 31 [(.pointer u31), (.int .u32 u35)] (.one (.one (.int .i64))) fun (u36 : Int) =>
 splitW (u36 == (0 : Int)) (drewW <|
 ptrW x0 fun (p37 : Addr) =>
 ldW .slc (p37.add 2) fun (u38 : (Option Addr × Nat × Nat)) =>
 ptrW x0 fun (p39 : Addr) =>
 ldW .slc (p39.add 2) fun (u40 : (Option Addr × Nat × Nat)) =>
 guardW (0 ≤ u3 ∧ u3 < ((u40.2.1 : Nat) : Int)) <|
 ptrW u40.1 fun (p41 : Addr) =>
 ldW (.int .u32) (p41.add (Int.toNat u3 * 1)) fun (u42 : Int) =>
 bothW (callW Tryz.prog 30 [(.slice u38.1 u38.2.1 u38.2.2)] (.one (.one .slc)) fun (u43 : (Option Addr × Nat × Nat)) =>
 heldW [[((p41.add (Int.toNat u3 * 1)), (.int .u32 u42))], [((p39.add 2), (.slice u40.1 u40.2.1 u40.2.2))]] <|
 newW (.cells #[(.int .u32 u42)] 31) fun (r44 : Nat) =>
 heldW [[((p37.add 2), (.slice u38.1 u38.2.1 u38.2.2))]] <|
 runW Tryz.prog (Builtin.append_ #[40, 40] 40 #[(.slice u43.1 u43.2.1 u43.2.2), (.slice (some (⟨r44, 0, none⟩ : Addr)) 1 1)]) .slc fun (u45 : (Option Addr × Nat × Nat)) =>
 ptrW x0 fun (p46 : Addr) =>
 stW (p46.add 2) (.slice u45.1 u45.2.1 u45.2.2) <| K (.tuple #[(.int .u32 (0 : Int)), (.int .i64 u36)])) <|
 newW (.cells #[(.int .u32 u42)] 31) fun (r47 : Nat) =>
 heldW [[((p37.add 2), (.slice u38.1 u38.2.1 u38.2.2))]] <|
 callW Tryz.prog 30 [(.slice u38.1 u38.2.1 u38.2.2)] (.one (.one .slc)) fun (u48 : (Option Addr × Nat × Nat)) =>
 heldW [[((p41.add (Int.toNat u3 * 1)), (.int .u32 u42))], [((p39.add 2), (.slice u40.1 u40.2.1 u40.2.2))]] <|
 runW Tryz.prog (Builtin.append_ #[40, 40] 40 #[(.slice u48.1 u48.2.1 u48.2.2), (.slice (some (⟨r47, 0, none⟩ : Addr)) 1 1)]) .slc fun (u49 : (Option Addr × Nat × Nat)) =>
 ptrW x0 fun (p50 : Addr) =>
 stW (p50.add 2) (.slice u49.1 u49.2.1 u49.2.2) <| K (.tuple #[(.int .u32 (0 : Int)), (.int .i64 u36)])) <| K (.tuple #[(.int .u32 (0 : Int)), (.int .i64 u36)])) <| J4 ()) <|
 splitW (u7 == (5 : Int)) (splitW (decide (u3 ≥ (0 : Int))) (drewW <|
 ptrW x0 fun (p51 : Addr) =>
 ldW .ptr (p51.add 1) fun (u52 : Option Addr) =>
 ptrW x0 fun (p53 : Addr) =>
 ldW .slc (p53.add 2) fun (u54 : (Option Addr × Nat × Nat)) =>
 guardW (0 ≤ u3 ∧ u3 < ((u54.2.1 : Nat) : Int)) <|
 ptrW u54.1 fun (p55 : Addr) =>
 ldW (.int .u32) (p55.add (Int.toNat u3 * 1)) fun (u56 : Int) =>
 callW Tryz.prog 26 [(.pointer u52), (.int .u32 u56)] (.one (.one (.int .i64))) fun (u57 : Int) =>
 drewW <|
 ptrW x0 fun (p58 : Addr) =>
 ldW .slc (p58.add 2) fun (u59 : (Option Addr × Nat × Nat)) =>
 guardW (0 ≤ u3 ∧ u3 ≤ ((u59.2.2 : Nat) : Int)) <|
 ptrW x0 fun (p60 : Addr) =>
 ldW .slc (p60.add 2) fun (u61 : (Option Addr × Nat × Nat)) =>
 guardW (0 ≤ (IntKind.wrap .i64 (u3 + (1 : Int))) ∧ (IntKind.wrap .i64 (u3 + (1 : Int))) ≤ ((u61.2.1 : Nat) : Int)) <|
 callW Tryz.prog 30 [(.slice (cutAddr u59.1 0 u59.2.2 1) (Int.toNat u3) u59.2.2)] (.one (.one .slc)) fun (u62 : (Option Addr × Nat × Nat)) =>
 heldW [[((p60.add 2), (.slice u61.1 u61.2.1 u61.2.2))]] <|
 runW Tryz.prog (Builtin.append_ #[40, 40] 40 #[(.slice u62.1 u62.2.1 u62.2.2), (.slice (cutAddr u61.1 (Int.toNat (IntKind.wrap .i64 (u3 + (1 : Int)))) u61.2.2 1) (u61.2.1 - (Int.toNat (IntKind.wrap .i64 (u3 + (1 : Int))))) (u61.2.2 - (Int.toNat (IntKind.wrap .i64 (u3 + (1 : Int))))))]) .slc fun (u63 : (Option Addr × Nat × Nat)) =>
 ptrW x0 fun (p64 : Addr) =>
 stW (p64.add 2) (.slice u63.1 u63.2.1 u63.2.2) <| K (.tuple #[(.int .u32 (0 : Int)), (.int .i64 u57)])) <| J4 ()) <|
 splitW (u7 == (6 : Int)) (joinW (Int × Unit) (fun (J65 : (Int × Unit) → WP) =>
 splitW (decide (u3 ≥ (0 : Int))) (ldW (.int .i64) ((⟨r1, 0, none⟩ : Addr).add 3) fun (u67 : Int) =>
 splitW (decide (u67 ≥ (0 : Int))) (ptrW x0 fun (p68 : Addr) =>
 ldW .slc (p68.add 2) fun (u69 : (Option Addr × Nat × Nat)) =>
 guardW (0 ≤ u3 ∧ u3 < ((u69.2.1 : Nat) : Int)) <|
 ptrW u69.1 fun (p70 : Addr) =>
 ldW (.int .u32) (p70.add (Int.toNat u3 * 1)) fun (u71 : Int) => J65 (u71, ())) <| J65 ((0 : Int), ())) <| J65 ((0 : Int), ())) fun (y66 : Int × Unit) =>
 ptrW x0 fun (p72 : Addr) =>
 ldW .ptr (p72.add 1) fun (u73 : Option Addr) =>
 callW Tryz.prog 15 [(.pointer u73), (.int .u32 y66.1)] (.one (.one (.int .i64))) fun (u74 : Int) =>
 splitW (u74 == (0 : Int)) (ptrW x0 fun (p75 : Addr) =>
 ldW .slc (p75.add 2) fun (u76 : (Option Addr × Nat × Nat)) =>
 callW Tryz.prog 30 [(.slice u76.1 u76.2.1 u76.2.2)] (.one (.one .slc)) fun (u77 : (Option Addr × Nat × Nat)) =>
 ptrW x0 fun (p78 : Addr) =>
 stW (p78.add 3) (.slice u77.1 u77.2.1 u77.2.2) <|
 ptrW x0 fun (p79 : Addr) =>
 stW (p79.add 5) (.bool false) <|
 ptrW x0 fun (p80 : Addr) =>
 stW (p80.add 6) (.int .u32 y66.1) <| K (.tuple #[(.int .u32 y66.1), (.int .i64 u74)])) <| K (.tuple #[(.int .u32 y66.1), (.int .i64 u74)])) <|
 splitW (u7 == (7 : Int)) (ptrW x0 fun (p81 : Addr) =>
 ldW .ptr (p81.add 1) fun (u82 : Option Addr) =>
 callW Tryz.prog 32 [(.pointer u82)] (.one (.one (.int .i64))) fun (u83 : Int) =>
 ptrW x0 fun (p84 : Addr) =>
 ldW .slc (p84.add 3) fun (u85 : (Option Addr × Nat × Nat)) =>
 callW Tryz.prog 30 [(.slice u85.1 u85.2.1 u85.2.2)] (.one (.one .slc)) fun (u86 : (Option Addr × Nat × Nat)) =>
 ptrW x0 fun (p87 : Addr) =>
 stW (p87.add 2) (.slice u86.1 u86.2.1 u86.2.2) <|
 ptrW x0 fun (p88 : Addr) =>
 stW (p88.add 5) (.bool false) <| K (.tuple #[(.int .u32 (0 : Int)), (.int .i64 u83)])) <|
 splitW (u7 == (8 : Int)) (ldW (.int .i64) ((⟨r1, 0, none⟩ : Addr).add 3) fun (u89 : Int) =>
 callW Tryz.prog 33 [(.pointer x0), (.int .i64 u89)] (.one (.one (.int .i64))) fun (u90 : Int) => K (.tuple #[(.int .u32 (0 : Int)), (.int .i64 u90)])) <|
 splitW (u7 == (9 : Int)) (ptrW x0 fun (p91 : Addr) =>
 ldW .ptr p91 fun (u92 : Option Addr) =>
 callW Tryz.prog 10 [(.pointer u92)] (.many [(.one .ptr), (.one (.int .i64))]) fun (u93 : Option Addr × Int × Unit) =>
 splitW (u93.2.1 == (0 : Int)) (ptrW x0 fun (p94 : Addr) =>
 ldW .slc (p94.add 3) fun (u95 : (Option Addr × Nat × Nat)) =>
 callW Tryz.prog 30 [(.slice u95.1 u95.2.1 u95.2.2)] (.one (.one .slc)) fun (u96 : (Option Addr × Nat × Nat)) =>
 ptrW x0 fun (p97 : Addr) =>
 stW (p97.add 1) (.pointer u93.1) <|
 ptrW x0 fun (p98 : Addr) =>
 stW (p98.add 2) (.slice u96.1 u96.2.1 u96.2.2) <|
 ptrW x0 fun (p99 : Addr) =>
 stW (p99.add 5) (.bool false) <| K (.tuple #[(.int .u32 (0 : Int)), (.int .i64 u93.2.1)])) <| K (.tuple #[(.int .u32 (0 : Int)), (.int .i64 u93.2.1)])) <| J4 ()) fun (y5 : Unit) => K (.tuple #[(.int .u32 (0 : Int)), (.int .i64 (0 : Int))])
theorem eq8 (x0 : Option Addr) (x1_0 : Int) (x1_1 : Int) (x1_2 : Int) (x1_3 : Int) (x1_4 : ByteArray) (K : Value → WP) : bodyW Tryz.prog Tryz.f8 an8 false [(.pointer x0), (.agg #[(.int .i64 x1_0), (.int .u8 x1_1), (.int .i64 x1_2), (.int .i64 x1_3), (.string x1_4)])] K = S8 x0 x1_0 x1_1 x1_2 x1_3 x1_4 K := by kernel_rfl
theorem calls8 (x0 : Option Addr) (x1_0 : Int) (x1_1 : Int) (x1_2 : Int) (x1_3 : Int) (x1_4 : ByteArray) {K : Value → WP} {w : World} (h : S8 x0 x1_0 x1_1 x1_2 x1_3 x1_4 K w) : Calls Tryz.prog 8 #[(.pointer x0), (.agg #[(.int .i64 x1_0), (.int .u8 x1_1), (.int .i64 x1_2), (.int .i64 x1_3), (.string x1_4)])] w (Ret K) := callsR_of_bodyW mixed Tryz.func8 (of_decide_eq_true (by kernel_rfl)) (by rw [eq8]; exact h)
def an9 : Ann := (.seq .nil (.seq (.seq .nil (.cond (.seq .nil .nil) .nil)) (.seq .nil .nil)))
def S9 (x0 : Option Addr) (K : Value → WP) : WP := 
 splitW (Option.isNone x0) (K (.int .u64 (0 : Int))) <|
 ptrW x0 fun (p1 : Addr) =>
 ldW (.int .u64) (p1.add 1) fun (u2 : Int) => K (.int .u64 u2)
theorem eq9 (x0 : Option Addr) (K : Value → WP) : bodyW Tryz.prog Tryz.f9 an9 false [(.pointer x0)] K = S9 x0 K := by kernel_rfl
theorem calls9 (x0 : Option Addr) {K : Value → WP} {w : World} (h : S9 x0 K w) : Calls Tryz.prog 9 #[(.pointer x0)] w (Ret K) := callsR_of_bodyW mixed Tryz.func9 (of_decide_eq_true (by kernel_rfl)) (by rw [eq9]; exact h)
def an10 : Ann := (.seq .nil (.seq (.seq .nil (.cond (.seq .nil .nil) .nil)) (.seq .nil (.seq .nil (.seq .nil (.seq (.seq .nil (.cond (.seq .nil .nil) .nil)) (.seq .nil (.seq (.seq .nil (.block (.loop [(11, .sh (.one .slc)), (50, .sh (.one (.int .i64)))] [0, 8, 9, 48, 49, 1000000] (.seq .nil (.seq (.cond .nil .nil) (.seq (.block (.seq .nil (.seq .nil (.seq .nil (.seq (.seq .nil (.cond (.seq .nil .nil) .nil)) .nil))))) .nil)))))) (.seq .nil (.seq (.seq .nil (.cond (.seq .nil .nil) .nil)) (.seq .nil .nil)))))))))))
def S10 (x0 : Option Addr) (K : Value → WP) : WP := 
 splitW (Option.isNone x0) (K (.tuple #[(.pointer none), (.int .i64 (1 : Int))])) <|
 callW Tryz.prog 12 [(.pointer x0), (.int .i64 (0 : Int))] (.many [(.one .str), (.one (.int .i64))]) fun (u1 : ByteArray × Int × Unit) =>
 callW Tryz.prog 12 [(.pointer x0), (.int .i64 (1 : Int))] (.many [(.one .str), (.one (.int .i64))]) fun (u2 : ByteArray × Int × Unit) =>
 callW Tryz.prog 34 [(.string u1.1), (.string u2.1)] (.many [(.one (.int .i64)), (.agg [(.int .u64), (.int .i64), (.int .i64), (.int .u32), .slc]), (.one (.int .i64))]) fun (u3 : Int × (Int × Int × Int × Int × (Option Addr × Nat × Nat) × Unit) × Int × Unit) =>
 newW (.cells #[(.int .u64 (0 : Int)), (.int .i64 (0 : Int)), (.int .i64 (0 : Int)), (.int .u32 (0 : Int)), (.slice none 0 0)] 79) fun (r4 : Nat) =>
 guardW ((#[(.int .u64 u3.2.1.1), (.int .i64 u3.2.1.2.1), (.int .i64 u3.2.1.2.2.1), (.int .u32 u3.2.1.2.2.2.1), (.slice u3.2.1.2.2.2.2.1.1 u3.2.1.2.2.2.2.1.2.1 u3.2.1.2.2.2.2.1.2.2)] : Array Value).size = 5) <|
 stAW (⟨r4, 0, none⟩ : Addr) [(.int .u64 u3.2.1.1), (.int .i64 u3.2.1.2.1), (.int .i64 u3.2.1.2.2.1), (.int .u32 u3.2.1.2.2.2.1), (.slice u3.2.1.2.2.2.2.1.1 u3.2.1.2.2.2.2.1.2.1 u3.2.1.2.2.2.2.1.2.2)] <|
 drewW <|
 splitW (u3.2.2.1 != (0 : Int)) (K (.tuple #[(.pointer none), (.int .i64 (10 : Int))])) <|
 ldAW [(.int .i64), (.int .i64)] ((⟨r4, 0, none⟩ : Addr).add 1) fun (u5 : (Int × Int × Unit)) =>
 callW Tryz.prog 35 [(.pointer x0)] (.one (.agg [(.int .i64), (.int .i64)])) fun (u6 : (Int × Int × Unit)) =>
 heldW [[(((⟨r4, 0, none⟩ : Addr).add 1).add 0, (.int .i64 u5.1)), (((⟨r4, 0, none⟩ : Addr).add 1).add 1, (.int .i64 u5.2.1))]] <|
 eqW Tryz.prog (eqS .neq 23 (.tmp 42) (.tmp 44) (.agg #[(.int .i64 u5.1), (.int .i64 u5.2.1)]) (.agg #[(.int .i64 u6.1), (.int .i64 u6.2.1)])) fun (b7 : Bool) =>
 splitW b7 (K (.tuple #[(.pointer none), (.int .i64 (10 : Int))])) <|
 ldW .slc ((⟨r4, 0, none⟩ : Addr).add 4) fun (u8 : (Option Addr × Nat × Nat)) =>
 loopW ((Option Addr × Nat × Nat) × Int × Unit) ((none, 0, 0), (0 : Int), ()) fun (y10 : (Option Addr × Nat × Nat) × Int × Unit) (I9 : ((Option Addr × Nat × Nat) × Int × Unit) → WP) =>
 splitW (decide (y10.2.1 < ((u8.2.1 : Nat) : Int))) (guardW (0 ≤ y10.2.1 ∧ y10.2.1 < ((u8.2.1 : Nat) : Int)) <|
 ptrW u8.1 fun (p11 : Addr) =>
 ldW (.int .u32) (p11.add (Int.toNat y10.2.1 * 1)) fun (u12 : Int) =>
 callW Tryz.prog 12 [(.pointer x0), (.int .i64 (IntKind.wrap .i64 u12))] (.many [(.one .str), (.one (.int .i64))]) fun (u13 : ByteArray × Int × Unit) =>
 callW Tryz.prog 36 [(.string u13.1), (.int .u8 (2 : Int))] (.many [(.agg [(.int .u8), (.int .u64), .str]), (.one (.int .i64))]) fun (u14 : (Int × Int × ByteArray × Unit) × Int × Unit) =>
 newW (.cells #[(.int .u8 (0 : Int)), (.int .u64 (0 : Int)), (.string ByteArray.empty)] 87) fun (r15 : Nat) =>
 guardW ((#[(.int .u8 u14.1.1), (.int .u64 u14.1.2.1), (.string u14.1.2.2.1)] : Array Value).size = 3) <|
 stAW (⟨r15, 0, none⟩ : Addr) [(.int .u8 u14.1.1), (.int .u64 u14.1.2.1), (.string u14.1.2.2.1)] <|
 splitW (u14.2.1 != (0 : Int)) (K (.tuple #[(.pointer none), (.int .i64 (10 : Int))])) <|
 ldW (.int .u64) ((⟨r15, 0, none⟩ : Addr).add 1) fun (u16 : Int) =>
 ldW (.int .u64) (⟨r4, 0, none⟩ : Addr) fun (u17 : Int) =>
 splitW (u16 != u17) (K (.tuple #[(.pointer none), (.int .i64 (10 : Int))])) <|
 ldW .str ((⟨r15, 0, none⟩ : Addr).add 2) fun (u18 : ByteArray) =>
 newW (.cells #[(.string u18)] 9) fun (r19 : Nat) =>
 runW Tryz.prog (Builtin.append_ #[85, 85] 85 #[(.slice y10.1.1 y10.1.2.1 y10.1.2.2), (.slice (some (⟨r19, 0, none⟩ : Addr)) 1 1)]) .slc fun (u20 : (Option Addr × Nat × Nat)) => I9 ((u20.1, u20.2.1, u20.2.2), (IntKind.wrap .i64 (y10.2.1 + (1 : Int))), ())) <|
 callW Tryz.prog 35 [(.pointer x0)] (.one (.agg [(.int .i64), (.int .i64)])) fun (u21 : (Int × Int × Unit)) =>
 callW Tryz.prog 37 [(.agg #[(.int .i64 u21.1), (.int .i64 u21.2.1)]), (.slice y10.1.1 y10.1.2.1 y10.1.2.2)] (.many [(.one .ptr), (.one (.int .i64))]) fun (u22 : Option Addr × Int × Unit) =>
 splitW (u22.2.1 != (0 : Int)) (K (.tuple #[(.pointer none), (.int .i64 (10 : Int))])) <|
 drewW <|
 ldAW [(.int .u64), (.int .i64), (.int .i64), (.int .u32), .slc] (⟨r4, 0, none⟩ : Addr) fun (u23 : (Int × Int × Int × Int × (Option Addr × Nat × Nat) × Unit)) =>
 callW Tryz.prog 38 [(.pointer u22.1)] (.one (.one .ptr)) fun (u24 : Option Addr) =>
 heldW [[((⟨r4, 0, none⟩ : Addr).add 0, (.int .u64 u23.1)), ((⟨r4, 0, none⟩ : Addr).add 1, (.int .i64 u23.2.1)), ((⟨r4, 0, none⟩ : Addr).add 2, (.int .i64 u23.2.2.1)), ((⟨r4, 0, none⟩ : Addr).add 3, (.int .u32 u23.2.2.2.1)), ((⟨r4, 0, none⟩ : Addr).add 4, (.slice u23.2.2.2.2.1.1 u23.2.2.2.2.1.2.1 u23.2.2.2.2.1.2.2))]] <|
 newW (.cells #[(.pointer x0), (.int .u64 u23.1), (.int .i64 u23.2.1), (.int .i64 u23.2.2.1), (.int .u32 u23.2.2.2.1), (.slice u23.2.2.2.2.1.1 u23.2.2.2.2.1.2.1 u23.2.2.2.2.1.2.2), (.int .i64 u3.1), (.pointer u22.1), (.pointer u24), (.pointer none)] 82) fun (r25 : Nat) => K (.tuple #[(.pointer (some (⟨r25, 0, none⟩ : Addr))), (.int .i64 (0 : Int))])
theorem eq10 (x0 : Option Addr) (K : Value → WP) : bodyW Tryz.prog Tryz.f10 an10 false [(.pointer x0)] K = S10 x0 K := by kernel_rfl
theorem calls10 (x0 : Option Addr) {K : Value → WP} {w : World} (h : S10 x0 K w) : Calls Tryz.prog 10 #[(.pointer x0)] w (Ret K) := callsR_of_bodyW mixed Tryz.func10 (of_decide_eq_true (by kernel_rfl)) (by rw [eq10]; exact h)
def an11 : Ann := (.seq .nil (.seq .nil (.seq (.seq .nil (.cond (.seq .nil .nil) .nil)) (.seq .nil (.seq (.seq .nil (.block (.loop [(9, .sh (.one .str)), (10, .sh (.one (.int .i64)))] [0, 2, 7, 1000000] (.seq (.seq .nil (.cond .nil .nil)) (.seq (.block .nil) .nil))))) (.seq .nil .nil))))))
def S11 (x0 : Option Addr) (x1 : Int) (x2 : Int) (K : Value → WP) : WP := 
 callW Tryz.prog 25 [(.pointer x0), (.int .u32 x1)] (.many [(.agg [(.int .u8), .slc, .str]), (.one (.int .i64))]) fun (u1 : (Int × (Option Addr × Nat × Nat) × ByteArray × Unit) × Int × Unit) =>
 newW (.cells #[(.int .u8 (0 : Int)), (.slice none 0 0), (.string ByteArray.empty)] 69) fun (r2 : Nat) =>
 guardW ((#[(.int .u8 u1.1.1), (.slice u1.1.2.1.1 u1.1.2.1.2.1 u1.1.2.1.2.2), (.string u1.1.2.2.1)] : Array Value).size = 3) <|
 stAW (⟨r2, 0, none⟩ : Addr) [(.int .u8 u1.1.1), (.slice u1.1.2.1.1 u1.1.2.1.2.1 u1.1.2.1.2.2), (.string u1.1.2.2.1)] <|
 splitW (u1.2.1 != (0 : Int)) (K (.string (ByteArray.mk #[63]))) <|
 splitW (x2 == (0 : Int)) (K (.string (ByteArray.mk #[63]))) <|
 ldW (.int .u8) (⟨r2, 0, none⟩ : Addr) fun (u3 : Int) =>
 newW (.cells #[(.int .u8 u3)] 5) fun (r4 : Nat) =>
 runW Tryz.prog (Go.convert 93 9 (.slice (some (⟨r4, 0, none⟩ : Addr)) 1 1)) .str fun (u5 : ByteArray) =>
 ldW .str ((⟨r2, 0, none⟩ : Addr).add 2) fun (u6 : ByteArray) =>
 guardW (((u5.size + u6.size : Nat) : Int) ≤ IntKind.i64.max) <|
 guardW ((((u5 ++ u6).size + (ByteArray.mk #[40]).size : Nat) : Int) ≤ IntKind.i64.max) <|
 loopW (ByteArray × Int × Unit) (((u5 ++ u6) ++ (ByteArray.mk #[40])), (0 : Int), ()) fun (y8 : ByteArray × Int × Unit) (I7 : (ByteArray × Int × Unit) → WP) =>
 ldW .slc ((⟨r2, 0, none⟩ : Addr).add 1) fun (u9 : (Option Addr × Nat × Nat)) =>
 splitW (decide (y8.2.1 < ((u9.2.1 : Nat) : Int))) (ldW .slc ((⟨r2, 0, none⟩ : Addr).add 1) fun (u10 : (Option Addr × Nat × Nat)) =>
 guardW (0 ≤ y8.2.1 ∧ y8.2.1 < ((u10.2.1 : Nat) : Int)) <|
 ptrW u10.1 fun (p11 : Addr) =>
 ldW (.int .u32) (p11.add (Int.toNat y8.2.1 * 1)) fun (u12 : Int) =>
 callW Tryz.prog 11 [(.pointer x0), (.int .u32 u12), (.int .i64 (IntKind.wrap .i64 (x2 - (1 : Int))))] (.one (.one .str)) fun (u13 : ByteArray) =>
 guardW (((y8.1.size + u13.size : Nat) : Int) ≤ IntKind.i64.max) <|
 guardW ((((y8.1 ++ u13).size + (ByteArray.mk #[44]).size : Nat) : Int) ≤ IntKind.i64.max) <| I7 (((y8.1 ++ u13) ++ (ByteArray.mk #[44])), (IntKind.wrap .i64 (y8.2.1 + (1 : Int))), ())) <|
 guardW (((y8.1.size + (ByteArray.mk #[41]).size : Nat) : Int) ≤ IntKind.i64.max) <| K (.string (y8.1 ++ (ByteArray.mk #[41])))
theorem eq11 (x0 : Option Addr) (x1 : Int) (x2 : Int) (K : Value → WP) : bodyW Tryz.prog Tryz.f11 an11 false [(.pointer x0), (.int .u32 x1), (.int .i64 x2)] K = S11 x0 x1 x2 K := by kernel_rfl
theorem calls11 (x0 : Option Addr) (x1 : Int) (x2 : Int) {K : Value → WP} {w : World} (h : S11 x0 x1 x2 K w) : Calls Tryz.prog 11 #[(.pointer x0), (.int .u32 x1), (.int .i64 x2)] w (Ret K) := callsR_of_bodyW mixed Tryz.func11 (of_decide_eq_true (by kernel_rfl)) (by rw [eq11]; exact h)
def an12 : Ann := (.seq .nil (.seq (.block (.seq .nil (.cond (.seq .nil .nil) (.seq .nil (.cond (.seq .nil .nil) .nil))))) (.seq (.seq .nil (.block (.loop [(18, .sh (.one (.int .i64))), (19, .sh (.agg [(.int .i64), .str]))] [] (.seq .nil (.block (.seq .nil (.cond (.seq .nil .nil) .nil))))))) (.seq .nil .nil))))
def S12 (x0 : Option Addr) (x1 : Int) (K : Value → WP) : WP := 
 newW (.cells #[(.int .i64 x1)] 3) fun (r1 : Nat) =>
 newW (.cells #[(.string ByteArray.empty)] 9) fun (r2 : Nat) =>
 newW (.cells #[(.int .i64 (0 : Int))] 32) fun (r3 : Nat) =>
 splitW (Option.isNone x0) (stW (⟨r2, 0, none⟩ : Addr) (.string (ByteArray.mk #[])) <|
 stW (⟨r3, 0, none⟩ : Addr) (.int .i64 (1 : Int)) <|
 leaveW Tryz.prog [] <|
 ldW .str (⟨r2, 0, none⟩ : Addr) fun (u4 : ByteArray) =>
 ldW (.int .i64) (⟨r3, 0, none⟩ : Addr) fun (u5 : Int) => K (.tuple #[(.string u4), (.int .i64 u5)])) <|
 ldW (.int .i64) (⟨r1, 0, none⟩ : Addr) fun (u6 : Int) =>
 callW Tryz.prog 39 [(.pointer x0), (.int .i64 u6)] (.one (.one .bool)) fun (u7 : Bool) =>
 splitW (!u7) (stW (⟨r2, 0, none⟩ : Addr) (.string (ByteArray.mk #[])) <|
 stW (⟨r3, 0, none⟩ : Addr) (.int .i64 (2 : Int)) <|
 leaveW Tryz.prog [] <|
 ldW .str (⟨r2, 0, none⟩ : Addr) fun (u8 : ByteArray) =>
 ldW (.int .i64) (⟨r3, 0, none⟩ : Addr) fun (u9 : Int) => K (.tuple #[(.string u8), (.int .i64 u9)])) <|
 callW Tryz.prog 40 [(.pointer x0)] (.one (.one .any)) fun (u10 : Value) =>
 rangeW Tryz.prog u10 (Int × (Int × ByteArray × Unit) × Unit) (fun (t11 : Int × (Int × ByteArray × Unit) × Unit) => [(.int .i64 t11.1), (.agg #[(.int .i64 t11.2.1.1), (.string t11.2.1.2.1)])]) (fun (t11 : Int × (Int × ByteArray × Unit) × Unit) (B12 : WP → WP) (N13 : WP) (Q14 : Code → WP) =>
 newW (.cells #[(.int .i64 (0 : Int)), (.string ByteArray.empty)] 99) fun (r17 : Nat) =>
 guardW ((#[(.int .i64 t11.2.1.1), (.string t11.2.1.2.1)] : Array Value).size = 2) <|
 stAW (⟨r17, 0, none⟩ : Addr) [(.int .i64 t11.2.1.1), (.string t11.2.1.2.1)] <| B12 (ldW (.int .i64) (⟨r17, 0, none⟩ : Addr) fun (u18 : Int) =>
 ldW (.int .i64) (⟨r1, 0, none⟩ : Addr) fun (u19 : Int) =>
 splitW (u18 == u19) (ldW .str ((⟨r17, 0, none⟩ : Addr).add 1) fun (u20 : ByteArray) =>
 stW (⟨r2, 0, none⟩ : Addr) (.string u20) <|
 stW (⟨r3, 0, none⟩ : Addr) (.int .i64 (0 : Int)) <| Q14 .ret) <| N13)) fun (r15 : Nat) (p16 : Option Code) =>
 jumpK (drewW <|
 ptrW x0 fun (p21 : Addr) =>
 ldW .slc (p21.add 2) fun (u22 : (Option Addr × Nat × Nat)) =>
 ldW (.int .i64) (⟨r1, 0, none⟩ : Addr) fun (u23 : Int) =>
 guardW (0 ≤ u23 ∧ u23 < ((u22.2.1 : Nat) : Int)) <|
 ptrW u22.1 fun (p24 : Addr) =>
 ldW .str (p24.add (Int.toNat u23 * 1)) fun (u25 : ByteArray) =>
 stW (⟨r2, 0, none⟩ : Addr) (.string u25) <|
 stW (⟨r3, 0, none⟩ : Addr) (.int .i64 (0 : Int)) <|
 leaveW Tryz.prog (⟨.collected r15, #[]⟩ :: []) <|
 ldW .str (⟨r2, 0, none⟩ : Addr) fun (u26 : ByteArray) =>
 ldW (.int .i64) (⟨r3, 0, none⟩ : Addr) fun (u27 : Int) => K (.tuple #[(.string u26), (.int .i64 u27)])) (leaveW Tryz.prog (⟨.collected r15, #[]⟩ :: []) <|
 ldW .str (⟨r2, 0, none⟩ : Addr) fun (u28 : ByteArray) =>
 ldW (.int .i64) (⟨r3, 0, none⟩ : Addr) fun (u29 : Int) => K (.tuple #[(.string u28), (.int .i64 u29)])) [] p16
theorem eq12 (x0 : Option Addr) (x1 : Int) (K : Value → WP) : bodyW Tryz.prog Tryz.f12 an12 true [(.pointer x0), (.int .i64 x1)] K = S12 x0 x1 K := by kernel_rfl
theorem calls12 (x0 : Option Addr) (x1 : Int) {K : Value → WP} {w : World} (h : S12 x0 x1 K w) : Calls Tryz.prog 12 #[(.pointer x0), (.int .i64 x1)] w (Ret K) := callsR_of_bodyW mixed Tryz.func12 (of_decide_eq_true (by kernel_rfl)) (by rw [eq12]; exact h)
def an13 : Ann := (.seq .nil (.cond .nil .nil))
def S13 (x0 : Option Addr) (x1 : Int) (K : Value → WP) : WP := 
 splitW (!(Option.isNone x0)) (ptrW x0 fun (p1 : Addr) =>
 stW (p1.add 5) (.int .i64 (if x1 > (-1 : Int) then x1 else (-1 : Int))) <| K (.tuple #[])) <| K (.tuple #[])
theorem eq13 (x0 : Option Addr) (x1 : Int) (K : Value → WP) : bodyW Tryz.prog Tryz.f13 an13 false [(.pointer x0), (.int .i64 x1)] K = S13 x0 x1 K := by kernel_rfl
theorem calls13 (x0 : Option Addr) (x1 : Int) {K : Value → WP} {w : World} (h : S13 x0 x1 K w) : Calls Tryz.prog 13 #[(.pointer x0), (.int .i64 x1)] w (Ret K) := callsR_of_bodyW mixed Tryz.func13 (of_decide_eq_true (by kernel_rfl)) (by rw [eq13]; exact h)
def an14 : Ann := (.seq .nil (.seq (.seq .nil (.cond (.seq .nil .nil) .nil)) (.seq .nil (.seq (.seq .nil (.cond .nil .nil)) (.seq .nil .nil)))))
def S14 (x0 : Int) (x1 : Int) (K : Value → WP) : WP := 
 splitW (decide (x1 < (1 : Int))) (K (.int .i64 (0 : Int))) <|
 guardW (x1 ≠ 0) <|
 splitW (decide ((Int.tmod x0 x1) < (0 : Int))) (K (.int .i64 (IntKind.wrap .i64 ((Int.tmod x0 x1) + x1)))) <| K (.int .i64 (Int.tmod x0 x1))
theorem eq14 (x0 : Int) (x1 : Int) (K : Value → WP) : bodyW Tryz.prog Tryz.f14 an14 false [(.int .i64 x0), (.int .i64 x1)] K = S14 x0 x1 K := by kernel_rfl
theorem calls14 (x0 : Int) (x1 : Int) {K : Value → WP} {w : World} (h : S14 x0 x1 K w) : Calls Tryz.prog 14 #[(.int .i64 x0), (.int .i64 x1)] w (Ret K) := callsR_of_bodyW mixed Tryz.func14 (of_decide_eq_true (by kernel_rfl)) (by rw [eq14]; exact h)
def an15 : Ann := (.seq .nil (.join [] [0, 1, 1000000] (.block (.seq .nil (.cond (.seq .nil .nil) (.join [(17, .sh (.one .bool))] [0, 1, 1000000] .nil (.cond (.seq .nil .nil) (.seq .nil (.cond (.seq .nil .nil) (.seq .nil (.cond (.seq .nil .nil) .nil))))))))) (.seq .nil (.seq (.seq .nil (.block (.loop [(67, .sh (.one (.int .i64)))] [0, 5, 66, 1000000] (.seq .nil (.seq (.cond .nil .nil) (.seq (.block (.seq .nil (.seq (.seq .nil (.cond (.seq .nil .nil) .nil)) .nil))) .nil)))))) (.seq (.seq .nil (.block (.loop [(90, .sh (.one (.int .i64)))] [0, 5, 88, 89, 1000000] (.seq .nil (.seq (.cond .nil .nil) (.seq (.block (.seq .nil (.seq .nil (.seq .nil (.cond (.seq .nil .nil) .nil))))) .nil)))))) (.seq .nil (.seq (.seq .nil (.seq .nil (.cond (.seq .nil .nil) .nil))) (.seq .nil (.seq .nil .nil)))))))))
def S15 (x0 : Option Addr) (x1 : Int) (K : Value → WP) : WP := 
 joinW (Unit) (fun (J1 : (Unit) → WP) =>
 splitW (Option.isNone x0) (K (.int .i64 (1 : Int))) <|
 joinW (Bool × Unit) (fun (J3 : (Bool × Unit) → WP) =>
 splitW (x1 != (0 : Int)) (callW Tryz.prog 41 [(.pointer x0), (.int .u32 x1)] (.one (.one .bool)) fun (u5 : Bool) => J3 ((!u5), ())) <| J3 (false, ())) fun (y4 : Bool × Unit) =>
 splitW y4.1 (K (.int .i64 (2 : Int))) <|
 splitW (x1 != (0 : Int)) (ptrW x0 fun (p6 : Addr) =>
 ldW .ptr (p6.add 8) fun (u7 : Option Addr) =>
 callW Tryz.prog 42 [(.pointer u7), (.int .u32 x1)] (.one (.one (.int .i64))) fun (u8 : Int) =>
 splitW (u8 == (0 : Int)) (K (.int .i64 (8 : Int))) <|
 drewW <|
 ptrW x0 fun (p9 : Addr) =>
 ldW .slc ((p9.add 1).add 4) fun (u10 : (Option Addr × Nat × Nat)) =>
 callW Tryz.prog 23 [(.pointer x0)] (.one (.one (.int .i64))) fun (u11 : Int) =>
 heldW [[(((p9.add 1).add 4), (.slice u10.1 u10.2.1 u10.2.2))]] <|
 splitW (decide (u11 < ((u10.2.1 : Nat) : Int))) (K (.int .i64 (9 : Int))) <| J1 ()) <|
 drewW <|
 ptrW x0 fun (p12 : Addr) =>
 ldW .slc ((p12.add 1).add 4) fun (u13 : (Option Addr × Nat × Nat)) =>
 callW Tryz.prog 23 [(.pointer x0)] (.one (.one (.int .i64))) fun (u14 : Int) =>
 heldW [[(((p12.add 1).add 4), (.slice u13.1 u13.2.1 u13.2.2))]] <|
 splitW (decide (u14 < ((u13.2.1 : Nat) : Int))) (K (.int .i64 (9 : Int))) <| J1 ()) fun (y2 : Unit) =>
 drewW <|
 ptrW x0 fun (p15 : Addr) =>
 ldW (.int .u64) (p15.add 1) fun (u16 : Int) =>
 ptrW x0 fun (p17 : Addr) =>
 ldAW [(.int .i64), (.int .i64)] ((p17.add 1).add 1) fun (u18 : (Int × Int × Unit)) =>
 newW (.cells #[(.int .u64 (0 : Int)), (.int .i64 (0 : Int)), (.int .i64 (0 : Int)), (.int .u32 (0 : Int)), (.slice none 0 0)] 79) fun (r19 : Nat) =>
 heldW [[(((p17.add 1).add 1).add 0, (.int .i64 u18.1)), (((p17.add 1).add 1).add 1, (.int .i64 u18.2.1))], [((p15.add 1), (.int .u64 u16))]] <|
 guardW ((#[(.int .u64 (IntKind.wrap .u64 (u16 + (1 : Int)))), (.int .i64 u18.1), (.int .i64 u18.2.1), (.int .u32 x1), (.slice none 0 0)] : Array Value).size = 5) <|
 stAW (⟨r19, 0, none⟩ : Addr) [(.int .u64 (IntKind.wrap .u64 (u16 + (1 : Int)))), (.int .i64 u18.1), (.int .i64 u18.2.1), (.int .u32 x1), (.slice none 0 0)] <|
 ptrW x0 fun (p20 : Addr) =>
 ldW .slc ((p20.add 1).add 4) fun (u21 : (Option Addr × Nat × Nat)) =>
 loopW (Int × Unit) ((0 : Int), ()) fun (y23 : Int × Unit) (I22 : (Int × Unit) → WP) =>
 splitW (decide (y23.1 < ((u21.2.1 : Nat) : Int))) (callW Tryz.prog 43 [(.pointer x0)] (.many [(.one (.int .u32)), (.one (.int .i64))]) fun (u24 : Int × Int × Unit) =>
 splitW (u24.2.1 != (0 : Int)) (K (.int .i64 u24.2.1)) <|
 ldW .slc ((⟨r19, 0, none⟩ : Addr).add 4) fun (u25 : (Option Addr × Nat × Nat)) =>
 newW (.cells #[(.int .u32 u24.1)] 31) fun (r26 : Nat) =>
 runW Tryz.prog (Builtin.append_ #[40, 40] 40 #[(.slice u25.1 u25.2.1 u25.2.2), (.slice (some (⟨r26, 0, none⟩ : Addr)) 1 1)]) .slc fun (u27 : (Option Addr × Nat × Nat)) =>
 stW ((⟨r19, 0, none⟩ : Addr).add 4) (.slice u27.1 u27.2.1 u27.2.2) <| I22 ((IntKind.wrap .i64 (y23.1 + (1 : Int))), ())) <|
 ptrW x0 fun (p28 : Addr) =>
 ldW .slc ((p28.add 1).add 4) fun (u29 : (Option Addr × Nat × Nat)) =>
 loopW (Int × Unit) ((0 : Int), ()) fun (y31 : Int × Unit) (I30 : (Int × Unit) → WP) =>
 splitW (decide (y31.1 < ((u29.2.1 : Nat) : Int))) (guardW (0 ≤ y31.1 ∧ y31.1 < ((u29.2.1 : Nat) : Int)) <|
 ptrW u29.1 fun (p32 : Addr) =>
 ldW (.int .u32) (p32.add (Int.toNat y31.1 * 1)) fun (u33 : Int) =>
 ptrW x0 fun (p34 : Addr) =>
 ldW .ptr (p34.add 8) fun (u35 : Option Addr) =>
 callW Tryz.prog 44 [(.pointer u35), (.int .u32 u33)] (.many [(.one (.int .i64)), (.one (.int .i64))]) fun (u36 : Int × Int × Unit) =>
 splitW (u36.2.1 != (0 : Int)) (K (.int .i64 u36.2.1)) <| I30 ((IntKind.wrap .i64 (y31.1 + (1 : Int))), ())) <|
 ptrW x0 fun (p37 : Addr) =>
 ldW (.int .i64) (p37.add 6) fun (u38 : Int) =>
 callW Tryz.prog 45 [(.int .i64 u38)] (.one (.one (.int .i64))) fun (u39 : Int) =>
 drewW <|
 ptrW x0 fun (p40 : Addr) =>
 ldW .ptr p40 fun (u41 : Option Addr) =>
 ptrW x0 fun (p42 : Addr) =>
 ldW .ptr (p42.add 8) fun (u43 : Option Addr) =>
 ldAW [(.int .u64), (.int .i64), (.int .i64), (.int .u32), .slc] (⟨r19, 0, none⟩ : Addr) fun (u44 : (Int × Int × Int × Int × (Option Addr × Nat × Nat) × Unit)) =>
 callW Tryz.prog 46 [(.pointer u41), (.pointer u43), (.agg #[(.int .u64 u44.1), (.int .i64 u44.2.1), (.int .i64 u44.2.2.1), (.int .u32 u44.2.2.2.1), (.slice u44.2.2.2.2.1.1 u44.2.2.2.2.1.2.1 u44.2.2.2.2.1.2.2)]), (.int .i64 u39)] (.one (.one (.int .i64))) fun (u45 : Int) =>
 splitW (u45 != (0 : Int)) (K (.int .i64 u45)) <|
 drewW <|
 ldAW [(.int .u64), (.int .i64), (.int .i64), (.int .u32), .slc] (⟨r19, 0, none⟩ : Addr) fun (u46 : (Int × Int × Int × Int × (Option Addr × Nat × Nat) × Unit)) =>
 ptrW x0 fun (p47 : Addr) =>
 ldW .ptr (p47.add 8) fun (u48 : Option Addr) =>
 callW Tryz.prog 38 [(.pointer u48)] (.one (.one .ptr)) fun (u49 : Option Addr) =>
 heldW [[((⟨r19, 0, none⟩ : Addr).add 0, (.int .u64 u46.1)), ((⟨r19, 0, none⟩ : Addr).add 1, (.int .i64 u46.2.1)), ((⟨r19, 0, none⟩ : Addr).add 2, (.int .i64 u46.2.2.1)), ((⟨r19, 0, none⟩ : Addr).add 3, (.int .u32 u46.2.2.2.1)), ((⟨r19, 0, none⟩ : Addr).add 4, (.slice u46.2.2.2.2.1.1 u46.2.2.2.2.1.2.1 u46.2.2.2.2.1.2.2))]] <|
 ptrW x0 fun (p50 : Addr) =>
 guardW ((#[(.int .u64 u46.1), (.int .i64 u46.2.1), (.int .i64 u46.2.2.1), (.int .u32 u46.2.2.2.1), (.slice u46.2.2.2.2.1.1 u46.2.2.2.2.1.2.1 u46.2.2.2.2.1.2.2)] : Array Value).size = 5) <|
 stAW (p50.add 1) [(.int .u64 u46.1), (.int .i64 u46.2.1), (.int .i64 u46.2.2.1), (.int .u32 u46.2.2.2.1), (.slice u46.2.2.2.2.1.1 u46.2.2.2.2.1.2.1 u46.2.2.2.2.1.2.2)] <|
 ptrW x0 fun (p51 : Addr) =>
 stW (p51.add 6) (.int .i64 u39) <|
 ptrW x0 fun (p52 : Addr) =>
 stW (p52.add 7) (.pointer u49) <|
 ptrW x0 fun (p53 : Addr) =>
 stW (p53.add 9) (.pointer none) <| K (.int .i64 (0 : Int))
theorem eq15 (x0 : Option Addr) (x1 : Int) (K : Value → WP) : bodyW Tryz.prog Tryz.f15 an15 false [(.pointer x0), (.int .u32 x1)] K = S15 x0 x1 K := by kernel_rfl
theorem calls15 (x0 : Option Addr) (x1 : Int) {K : Value → WP} {w : World} (h : S15 x0 x1 K w) : Calls Tryz.prog 15 #[(.pointer x0), (.int .u32 x1)] w (Ret K) := callsR_of_bodyW mixed Tryz.func15 (of_decide_eq_true (by kernel_rfl)) (by rw [eq15]; exact h)
def an16 : Ann := (.seq .nil (.seq (.seq .nil (.cond (.seq .nil .nil) .nil)) (.seq .nil .nil)))
def S16 (x0 : Option Addr) (K : Value → WP) : WP := 
 splitW (Option.isNone x0) (K (.slice none 0 0)) <|
 ptrW x0 fun (p1 : Addr) =>
 ldW .slc (p1.add 3) fun (u2 : (Option Addr × Nat × Nat)) =>
 callW Tryz.prog 47 [(.slice u2.1 u2.2.1 u2.2.2)] (.one (.one .slc)) fun (u3 : (Option Addr × Nat × Nat)) => K (.slice u3.1 u3.2.1 u3.2.2)
theorem eq16 (x0 : Option Addr) (K : Value → WP) : bodyW Tryz.prog Tryz.f16 an16 false [(.pointer x0)] K = S16 x0 K := by kernel_rfl
theorem calls16 (x0 : Option Addr) {K : Value → WP} {w : World} (h : S16 x0 K w) : Calls Tryz.prog 16 #[(.pointer x0)] w (Ret K) := callsR_of_bodyW mixed Tryz.func16 (of_decide_eq_true (by kernel_rfl)) (by rw [eq16]; exact h)
def an17 : Ann := (.seq .nil (.seq .nil .nil))
def S17 (a0 : Option Addr) (n0 c0 : Nat) (K : Value → WP) : WP := 
 newW (.cells #[] 56) fun (r1 : Nat) =>
 runW Tryz.prog (Builtin.append_ #[25, 25] 25 #[(.slice (some (⟨r1, 0, none⟩ : Addr)) 0 0), (.slice a0 n0 c0)]) .slc fun (u2 : (Option Addr × Nat × Nat)) => K (.slice u2.1 u2.2.1 u2.2.2)
theorem eq17 (a0 : Option Addr) (n0 c0 : Nat) (K : Value → WP) : bodyW Tryz.prog Tryz.f17 an17 false [(.slice a0 n0 c0)] K = S17 a0 n0 c0 K := by kernel_rfl
theorem calls17 (a0 : Option Addr) (n0 c0 : Nat) {K : Value → WP} {w : World} (h : S17 a0 n0 c0 K w) : Calls Tryz.prog 17 #[(.slice a0 n0 c0)] w (Ret K) := callsR_of_bodyW mixed Tryz.func17 (of_decide_eq_true (by kernel_rfl)) (by rw [eq17]; exact h)
def an18 : Ann := (.seq .nil (.seq (.seq .nil (.cond (.seq .nil .nil) .nil)) (.seq .nil (.seq (.seq .nil (.block (.loop [(4, .sh (.one .ptr)), (5, .sh (.one (.int .i64))), (23, .sh (.one (.int .i64)))] [0, 1, 6, 21, 22, 1000000] (.seq .nil (.seq (.cond .nil .nil) (.seq (.block (.seq .nil (.seq .nil (.seq .nil (.seq (.seq .nil (.cond (.seq .nil .nil) .nil)) .nil))))) .nil)))))) (.seq .nil (.seq (.seq .nil (.block (.loop [(85, .sh (.one (.int .i64))), (1000000, .ds)] [0, 4, 5, 12, 83, 84] (.seq .nil (.seq (.cond .nil .nil) (.seq (.block (.seq .nil (.seq .nil (.seq .nil (.seq (.seq .nil (.block (.loop [(109, .sh (.one (.int .i64)))] [] (.seq .nil (.block .nil))))) .nil))))) .nil)))))) (.seq .nil .nil)))))))
def S18 (x0 : Option Addr) (a1 : Option Addr) (n1 c1 : Nat) (K : Value → WP) : WP := 
 splitW (Option.isNone x0) (leaveW Tryz.prog [] <| K (.tuple #[(.pointer none), (.int .i64 (1 : Int))])) <|
 runW Tryz.prog (Instr.makeMap 109 none) .any fun (u1 : Value) =>
 loopW (Option Addr × Int × Int × Unit) (none, (0 : Int), (0 : Int), ()) fun (y3 : Option Addr × Int × Int × Unit) (I2 : (Option Addr × Int × Int × Unit) → WP) =>
 splitW (decide (y3.2.2.1 < ((n1 : Nat) : Int))) (guardW (0 ≤ y3.2.2.1 ∧ y3.2.2.1 < ((n1 : Nat) : Int)) <|
 ptrW a1 fun (p4 : Addr) =>
 ldAW [(.int .i64), (.int .u64)] (p4.add (Int.toNat y3.2.2.1 * 2)) fun (u5 : (Int × Int × Unit)) =>
 newW (.cells #[(.int .i64 (0 : Int)), (.int .u64 (0 : Int))] 56) fun (r6 : Nat) =>
 guardW ((#[(.int .i64 u5.1), (.int .u64 u5.2.1)] : Array Value).size = 2) <|
 stAW (⟨r6, 0, none⟩ : Addr) [(.int .i64 u5.1), (.int .u64 u5.2.1)] <|
 ptrW x0 fun (p7 : Addr) =>
 ldW (.int .i64) p7 fun (u8 : Int) =>
 ldW (.int .i64) (⟨r6, 0, none⟩ : Addr) fun (u9 : Int) =>
 runRW Tryz.prog (Instr.lookup 109 u1 (.int .i64 u9) true) (.many [(.agg []), (.one .bool)]) fun (u10 : (Unit) × Bool × Unit) =>
 newW (.cells #[] 110) fun (r11 : Nat) =>
 guardW ((#[] : Array Value).size = 0) <|
 stAW (⟨r11, 0, none⟩ : Addr) [] <|
 drewW <|
 ldW (.int .i64) (⟨r6, 0, none⟩ : Addr) fun (u12 : Int) =>
 splitW (decide (u12 < (0 : Int))) (leaveW Tryz.prog [] <| K (.tuple #[(.pointer none), (.int .i64 (2 : Int))])) <|
 ldW (.int .i64) (⟨r6, 0, none⟩ : Addr) fun (u13 : Int) =>
 ptrW x0 fun (p14 : Addr) =>
 ldW .slc (p14.add 3) fun (u15 : (Option Addr × Nat × Nat)) =>
 splitW (decide (u13 ≥ ((u15.2.1 : Nat) : Int))) (leaveW Tryz.prog [] <| K (.tuple #[(.pointer none), (.int .i64 (2 : Int))])) <|
 splitW u10.2.1 (leaveW Tryz.prog [] <| K (.tuple #[(.pointer none), (.int .i64 (2 : Int))])) <|
 splitW (decide ((IntKind.wrap .i64 (Int.tdiv u8 (64 : Int))) < (64 : Int))) (ldW (.int .u64) ((⟨r6, 0, none⟩ : Addr).add 1) fun (u16 : Int) =>
 guardW (0 ≤ (IntKind.wrap .i64 (Int.tdiv u8 (64 : Int)))) <|
 splitW ((ishr .u64 u16 (IntKind.wrap .i64 (Int.tdiv u8 (64 : Int)))) != (0 : Int)) (leaveW Tryz.prog [] <| K (.tuple #[(.pointer none), (.int .i64 (2 : Int))])) <|
 ldW (.int .i64) (⟨r6, 0, none⟩ : Addr) fun (u17 : Int) =>
 runUW Tryz.prog (Instr.mapUpdate 109 u1 (.int .i64 u17) (.agg #[])) <| I2 (y3.1, y3.2.1, (IntKind.wrap .i64 (y3.2.2.1 + (1 : Int))), ())) <|
 ldW (.int .i64) (⟨r6, 0, none⟩ : Addr) fun (u18 : Int) =>
 runUW Tryz.prog (Instr.mapUpdate 109 u1 (.int .i64 u18) (.agg #[])) <| I2 (y3.1, y3.2.1, (IntKind.wrap .i64 (y3.2.2.1 + (1 : Int))), ())) <|
 drewW <|
 ptrW x0 fun (p19 : Addr) =>
 ldAW [(.int .i64), (.int .i64)] p19 fun (u20 : (Int × Int × Unit)) =>
 ptrW x0 fun (p21 : Addr) =>
 ldW .slc (p21.add 2) fun (u22 : (Option Addr × Nat × Nat)) =>
 callW Tryz.prog 48 [(.slice u22.1 u22.2.1 u22.2.2)] (.one (.one .slc)) fun (u23 : (Option Addr × Nat × Nat)) =>
 heldW [[(p19.add 0, (.int .i64 u20.1)), (p19.add 1, (.int .i64 u20.2.1))]] <|
 newW (.cells #[(.int .i64 u20.1), (.int .i64 u20.2.1), (.slice u23.1 u23.2.1 u23.2.2), (.slice none 0 0), (.int .i64 (0 : Int)), (.int .i64 (-1 : Int))] 101) fun (r24 : Nat) =>
 loopW (Int × List Deferred × Unit) ((0 : Int), [], ()) fun (y26 : Int × List Deferred × Unit) (I25 : (Int × List Deferred × Unit) → WP) =>
 splitW (decide (y26.1 < ((n1 : Nat) : Int))) (guardW (0 ≤ y26.1 ∧ y26.1 < ((n1 : Nat) : Int)) <|
 ptrW a1 fun (p27 : Addr) =>
 ldAW [(.int .i64), (.int .u64)] (p27.add (Int.toNat y26.1 * 2)) fun (u28 : (Int × Int × Unit)) =>
 newW (.cells #[(.int .i64 (0 : Int)), (.int .u64 (0 : Int))] 56) fun (r29 : Nat) =>
 guardW ((#[(.int .i64 u28.1), (.int .u64 u28.2.1)] : Array Value).size = 2) <|
 stAW (⟨r29, 0, none⟩ : Addr) [(.int .i64 u28.1), (.int .u64 u28.2.1)] <|
 drewW <|
 ptrW x0 fun (p30 : Addr) =>
 ldW .slc (p30.add 3) fun (u31 : (Option Addr × Nat × Nat)) =>
 ldW (.int .i64) (⟨r29, 0, none⟩ : Addr) fun (u32 : Int) =>
 guardW (0 ≤ u32 ∧ u32 < ((u31.2.1 : Nat) : Int)) <|
 ptrW u31.1 fun (p33 : Addr) =>
 ldAW [(.int .i64), .str] (p33.add (Int.toNat u32 * 2)) fun (u34 : (Int × ByteArray × Unit)) =>
 newW (.cells #[(.int .i64 (0 : Int)), (.string ByteArray.empty)] 99) fun (r35 : Nat) =>
 heldW [[((p33.add (Int.toNat u32 * 2)).add 0, (.int .i64 u34.1)), ((p33.add (Int.toNat u32 * 2)).add 1, (.string u34.2.1))], [((⟨r29, 0, none⟩ : Addr), (.int .i64 u32))], [((p30.add 3), (.slice u31.1 u31.2.1 u31.2.2))]] <|
 guardW ((#[(.int .i64 u34.1), (.string u34.2.1)] : Array Value).size = 2) <|
 stAW (⟨r35, 0, none⟩ : Addr) [(.int .i64 u34.1), (.string u34.2.1)] <|
 drewW <|
 ptrW (some (⟨r24, 0, none⟩ : Addr)) fun (p36 : Addr) =>
 ldW .slc (p36.add 2) fun (u37 : (Option Addr × Nat × Nat)) =>
 ldW (.int .i64) (⟨r35, 0, none⟩ : Addr) fun (u38 : Int) =>
 guardW (0 ≤ u38 ∧ u38 < ((u37.2.1 : Nat) : Int)) <|
 ptrW u37.1 fun (p39 : Addr) =>
 ldW .str (p39.add (Int.toNat u38 * 1)) fun (u40 : ByteArray) =>
 bothW (runW Tryz.prog (Go.convert 9 93 (.string u40)) .slc fun (u41 : (Option Addr × Nat × Nat)) =>
 newW (.cells #[(.slice none 0 0)] 93) fun (r42 : Nat) =>
 heldW [[((p39.add (Int.toNat u38 * 1)), (.string u40))], [((⟨r35, 0, none⟩ : Addr), (.int .i64 u38))], [((p36.add 2), (.slice u37.1 u37.2.1 u37.2.2))]] <|
 stW (⟨r42, 0, none⟩ : Addr) (.slice u41.1 u41.2.1 u41.2.2) <|
 ldW (.int .u64) ((⟨r29, 0, none⟩ : Addr).add 1) fun (u43 : Int) =>
 callW Tryz.prog 49 [(.int .u64 u43)] (.one (.one .any)) fun (u44 : Value) =>
 rangeW Tryz.prog u44 (Int × Unit) (fun (t45 : Int × Unit) => [(.int .i64 t45.1)]) (fun (t45 : Int × Unit) (B46 : WP → WP) (N47 : WP) (Q48 : Code → WP) => B46 (drewW <|
 ldW .slc (⟨r42, 0, none⟩ : Addr) fun (u51 : (Option Addr × Nat × Nat)) =>
 guardW (0 ≤ (IntKind.wrap .i64 (t45.1 * (64 : Int))) ∧ (IntKind.wrap .i64 (t45.1 * (64 : Int))) ≤ (IntKind.wrap .i64 ((IntKind.wrap .i64 (t45.1 + (1 : Int))) * (64 : Int))) ∧ (IntKind.wrap .i64 ((IntKind.wrap .i64 (t45.1 + (1 : Int))) * (64 : Int))) ≤ ((u51.2.2 : Nat) : Int)) <|
 ldW .str ((⟨r35, 0, none⟩ : Addr).add 1) fun (u52 : ByteArray) =>
 guardW (0 ≤ (IntKind.wrap .i64 (t45.1 * (64 : Int))) ∧ (IntKind.wrap .i64 (t45.1 * (64 : Int))) ≤ ((u52.size : Nat) : Int)) <|
 runW Tryz.prog (Builtin.copy_ #[93, 9] 3 #[(.slice (cutAddr u51.1 (Int.toNat (IntKind.wrap .i64 (t45.1 * (64 : Int)))) u51.2.2 1) ((Int.toNat (IntKind.wrap .i64 ((IntKind.wrap .i64 (t45.1 + (1 : Int))) * (64 : Int)))) - (Int.toNat (IntKind.wrap .i64 (t45.1 * (64 : Int))))) (u51.2.2 - (Int.toNat (IntKind.wrap .i64 (t45.1 * (64 : Int)))))), (.string (ByteArray.extract u52 (Int.toNat (IntKind.wrap .i64 (t45.1 * (64 : Int)))) u52.size))]) (.int .i64) fun (u53 : Int) => N47)) fun (r49 : Nat) (p50 : Option Code) =>
 jumpK (drewW <|
 ptrW (some (⟨r24, 0, none⟩ : Addr)) fun (p54 : Addr) =>
 ldW .slc (p54.add 2) fun (u55 : (Option Addr × Nat × Nat)) =>
 ldW (.int .i64) (⟨r35, 0, none⟩ : Addr) fun (u56 : Int) =>
 ldW .slc (⟨r42, 0, none⟩ : Addr) fun (u57 : (Option Addr × Nat × Nat)) =>
 runW Tryz.prog (Go.convert 93 9 (.slice u57.1 u57.2.1 u57.2.2)) .str fun (u58 : ByteArray) =>
 heldW [[((⟨r35, 0, none⟩ : Addr), (.int .i64 u56))], [((p54.add 2), (.slice u55.1 u55.2.1 u55.2.2))]] <|
 guardW (0 ≤ u56 ∧ u56 < ((u55.2.1 : Nat) : Int)) <|
 ptrW u55.1 fun (p59 : Addr) =>
 stW (p59.add (Int.toNat u56 * 1)) (.string u58) <| I25 ((IntKind.wrap .i64 (y26.1 + (1 : Int))), (⟨.collected r49, #[]⟩ :: y26.2.1), ())) (leaveW Tryz.prog (⟨.collected r49, #[]⟩ :: y26.2.1) <| K (.tuple #[(.pointer y3.1), (.int .i64 y3.2.1)])) [] p50) <|
 newW (.cells #[(.slice none 0 0)] 93) fun (r60 : Nat) =>
 heldW [[((p39.add (Int.toNat u38 * 1)), (.string u40))], [((⟨r35, 0, none⟩ : Addr), (.int .i64 u38))], [((p36.add 2), (.slice u37.1 u37.2.1 u37.2.2))]] <|
 runW Tryz.prog (Go.convert 9 93 (.string u40)) .slc fun (u61 : (Option Addr × Nat × Nat)) =>
 stW (⟨r60, 0, none⟩ : Addr) (.slice u61.1 u61.2.1 u61.2.2) <|
 ldW (.int .u64) ((⟨r29, 0, none⟩ : Addr).add 1) fun (u62 : Int) =>
 callW Tryz.prog 49 [(.int .u64 u62)] (.one (.one .any)) fun (u63 : Value) =>
 rangeW Tryz.prog u63 (Int × Unit) (fun (t64 : Int × Unit) => [(.int .i64 t64.1)]) (fun (t64 : Int × Unit) (B65 : WP → WP) (N66 : WP) (Q67 : Code → WP) => B65 (drewW <|
 ldW .slc (⟨r60, 0, none⟩ : Addr) fun (u70 : (Option Addr × Nat × Nat)) =>
 guardW (0 ≤ (IntKind.wrap .i64 (t64.1 * (64 : Int))) ∧ (IntKind.wrap .i64 (t64.1 * (64 : Int))) ≤ (IntKind.wrap .i64 ((IntKind.wrap .i64 (t64.1 + (1 : Int))) * (64 : Int))) ∧ (IntKind.wrap .i64 ((IntKind.wrap .i64 (t64.1 + (1 : Int))) * (64 : Int))) ≤ ((u70.2.2 : Nat) : Int)) <|
 ldW .str ((⟨r35, 0, none⟩ : Addr).add 1) fun (u71 : ByteArray) =>
 guardW (0 ≤ (IntKind.wrap .i64 (t64.1 * (64 : Int))) ∧ (IntKind.wrap .i64 (t64.1 * (64 : Int))) ≤ ((u71.size : Nat) : Int)) <|
 runW Tryz.prog (Builtin.copy_ #[93, 9] 3 #[(.slice (cutAddr u70.1 (Int.toNat (IntKind.wrap .i64 (t64.1 * (64 : Int)))) u70.2.2 1) ((Int.toNat (IntKind.wrap .i64 ((IntKind.wrap .i64 (t64.1 + (1 : Int))) * (64 : Int)))) - (Int.toNat (IntKind.wrap .i64 (t64.1 * (64 : Int))))) (u70.2.2 - (Int.toNat (IntKind.wrap .i64 (t64.1 * (64 : Int)))))), (.string (ByteArray.extract u71 (Int.toNat (IntKind.wrap .i64 (t64.1 * (64 : Int)))) u71.size))]) (.int .i64) fun (u72 : Int) => N66)) fun (r68 : Nat) (p69 : Option Code) =>
 jumpK (drewW <|
 ptrW (some (⟨r24, 0, none⟩ : Addr)) fun (p73 : Addr) =>
 ldW .slc (p73.add 2) fun (u74 : (Option Addr × Nat × Nat)) =>
 ldW (.int .i64) (⟨r35, 0, none⟩ : Addr) fun (u75 : Int) =>
 ldW .slc (⟨r60, 0, none⟩ : Addr) fun (u76 : (Option Addr × Nat × Nat)) =>
 runW Tryz.prog (Go.convert 93 9 (.slice u76.1 u76.2.1 u76.2.2)) .str fun (u77 : ByteArray) =>
 heldW [[((⟨r35, 0, none⟩ : Addr), (.int .i64 u75))], [((p73.add 2), (.slice u74.1 u74.2.1 u74.2.2))]] <|
 guardW (0 ≤ u75 ∧ u75 < ((u74.2.1 : Nat) : Int)) <|
 ptrW u74.1 fun (p78 : Addr) =>
 stW (p78.add (Int.toNat u75 * 1)) (.string u77) <| I25 ((IntKind.wrap .i64 (y26.1 + (1 : Int))), (⟨.collected r68, #[]⟩ :: y26.2.1), ())) (leaveW Tryz.prog (⟨.collected r68, #[]⟩ :: y26.2.1) <| K (.tuple #[(.pointer y3.1), (.int .i64 y3.2.1)])) [] p69) <|
 leaveW Tryz.prog y26.2.1 <| K (.tuple #[(.pointer (some (⟨r24, 0, none⟩ : Addr))), (.int .i64 (0 : Int))])
theorem eq18 (x0 : Option Addr) (a1 : Option Addr) (n1 c1 : Nat) (K : Value → WP) : bodyW Tryz.prog Tryz.f18 an18 true [(.pointer x0), (.slice a1 n1 c1)] K = S18 x0 a1 n1 c1 K := by kernel_rfl
theorem calls18 (x0 : Option Addr) (a1 : Option Addr) (n1 c1 : Nat) {K : Value → WP} {w : World} (h : S18 x0 a1 n1 c1 K w) : Calls Tryz.prog 18 #[(.pointer x0), (.slice a1 n1 c1)] w (Ret K) := callsR_of_bodyW mixed Tryz.func18 (of_decide_eq_true (by kernel_rfl)) (by rw [eq18]; exact h)
def an19 : Ann := (.seq .nil (.seq .nil (.seq .nil (.seq (.seq .nil (.cond (.seq .nil .nil) .nil)) (.seq (.seq .nil (.block (.loop [(13, .sh (.one (.int .i64)))] [3, 9, 1000000] (.seq (.seq .nil (.cond .nil .nil)) (.seq (.block (.seq .nil (.cond (.seq .nil .nil) .nil))) .nil))))) (.seq .nil .nil))))))
def S19 (x0 : Option Addr) (x1 : Int) (x2 : ByteArray) (a3 : Option Addr) (n3 c3 : Nat) (K : Value → WP) : WP := 
 callW Tryz.prog 12 [(.pointer x0), (.int .i64 x1)] (.many [(.one .str), (.one (.int .i64))]) fun (u1 : ByteArray × Int × Unit) =>
 callW Tryz.prog 50 [(.string u1.1)] (.many [(.agg [(.int .u64), (.int .i64), (.int .i64), (.int .u32), .slc]), (.one (.int .i64))]) fun (u2 : (Int × Int × Int × Int × (Option Addr × Nat × Nat) × Unit) × Int × Unit) =>
 newW (.cells #[(.int .u64 (0 : Int)), (.int .i64 (0 : Int)), (.int .i64 (0 : Int)), (.int .u32 (0 : Int)), (.slice none 0 0)] 79) fun (r3 : Nat) =>
 guardW ((#[(.int .u64 u2.1.1), (.int .i64 u2.1.2.1), (.int .i64 u2.1.2.2.1), (.int .u32 u2.1.2.2.2.1), (.slice u2.1.2.2.2.2.1.1 u2.1.2.2.2.2.1.2.1 u2.1.2.2.2.2.1.2.2)] : Array Value).size = 5) <|
 stAW (⟨r3, 0, none⟩ : Addr) [(.int .u64 u2.1.1), (.int .i64 u2.1.2.1), (.int .i64 u2.1.2.2.1), (.int .u32 u2.1.2.2.2.1), (.slice u2.1.2.2.2.2.1.1 u2.1.2.2.2.2.1.2.1 u2.1.2.2.2.2.1.2.2)] <|
 splitW (u1.1.toList == x2.toList) (K (.bool false)) <|
 splitW (u2.2.1 != (0 : Int)) (K (.bool false)) <|
 loopW (Int × Unit) ((0 : Int), ()) fun (y5 : Int × Unit) (I4 : (Int × Unit) → WP) =>
 splitW (decide (y5.1 < ((n3 : Nat) : Int))) (guardW (0 ≤ y5.1 ∧ y5.1 < ((n3 : Nat) : Int)) <|
 ptrW a3 fun (p6 : Addr) =>
 ldW .str ((p6.add (Int.toNat y5.1 * 2)).add 1) fun (u7 : ByteArray) =>
 splitW (u7.toList == u1.1.toList) (K (.bool false)) <| I4 ((IntKind.wrap .i64 (y5.1 + (1 : Int))), ())) <| K (.bool true)
theorem eq19 (x0 : Option Addr) (x1 : Int) (x2 : ByteArray) (a3 : Option Addr) (n3 c3 : Nat) (K : Value → WP) : bodyW Tryz.prog Tryz.f19 an19 false [(.pointer x0), (.int .i64 x1), (.string x2), (.slice a3 n3 c3)] K = S19 x0 x1 x2 a3 n3 c3 K := by kernel_rfl
theorem calls19 (x0 : Option Addr) (x1 : Int) (x2 : ByteArray) (a3 : Option Addr) (n3 c3 : Nat) {K : Value → WP} {w : World} (h : S19 x0 x1 x2 a3 n3 c3 K w) : Calls Tryz.prog 19 #[(.pointer x0), (.int .i64 x1), (.string x2), (.slice a3 n3 c3)] w (Ret K) := callsR_of_bodyW mixed Tryz.func19 (of_decide_eq_true (by kernel_rfl)) (by rw [eq19]; exact h)
def an20 : Ann := (.seq .nil (.seq (.seq .nil (.cond (.seq .nil .nil) .nil)) (.seq .nil .nil)))
def S20 (x0 : Option Addr) (K : Value → WP) : WP := 
 splitW (Option.isNone x0) (K (.int .u32 (0 : Int))) <|
 ptrW x0 fun (p1 : Addr) =>
 ldW (.int .u32) ((p1.add 1).add 3) fun (u2 : Int) => K (.int .u32 u2)
theorem eq20 (x0 : Option Addr) (K : Value → WP) : bodyW Tryz.prog Tryz.f20 an20 false [(.pointer x0)] K = S20 x0 K := by kernel_rfl
theorem calls20 (x0 : Option Addr) {K : Value → WP} {w : World} (h : S20 x0 K w) : Calls Tryz.prog 20 #[(.pointer x0)] w (Ret K) := callsR_of_bodyW mixed Tryz.func20 (of_decide_eq_true (by kernel_rfl)) (by rw [eq20]; exact h)
def an21 : Ann := (.seq .nil (.seq .nil (.seq .nil (.seq (.seq .nil (.cond (.seq .nil .nil) .nil)) (.seq .nil .nil)))))
def S21 (x0_0 : Int) (x0_1 : Int) (K : Value → WP) : WP := 
 newW (.cells #[(.int .i64 x0_0), (.int .i64 x0_1)] 23) fun (r1 : Nat) =>
 ldAW [(.int .i64), (.int .i64)] (⟨r1, 0, none⟩ : Addr) fun (u2 : (Int × Int × Unit)) =>
 callW Tryz.prog 51 [(.agg #[(.int .i64 u2.1), (.int .i64 u2.2.1)])] (.many [(.one .ptr), (.one (.int .i64))]) fun (u3 : Option Addr × Int × Unit) =>
 callW Tryz.prog 52 [(.pointer u3.1)] (.many [(.one .ptr), (.one (.int .i64))]) fun (u4 : Option Addr × Int × Unit) =>
 splitW (u4.2.1 != (0 : Int)) (K (.tuple #[(.pointer u3.1), (.pointer none)])) <| K (.tuple #[(.pointer u3.1), (.pointer u4.1)])
theorem eq21 (x0_0 : Int) (x0_1 : Int) (K : Value → WP) : bodyW Tryz.prog Tryz.f21 an21 false [(.agg #[(.int .i64 x0_0), (.int .i64 x0_1)])] K = S21 x0_0 x0_1 K := by kernel_rfl
theorem calls21 (x0_0 : Int) (x0_1 : Int) {K : Value → WP} {w : World} (h : S21 x0_0 x0_1 K w) : Calls Tryz.prog 21 #[(.agg #[(.int .i64 x0_0), (.int .i64 x0_1)])] w (Ret K) := callsR_of_bodyW mixed Tryz.func21 (of_decide_eq_true (by kernel_rfl)) (by rw [eq21]; exact h)
def an22 : Ann := (.seq .nil (.seq .nil .nil))
def S22  (K : Value → WP) : WP := 
 newW (.cells #[(.int .i64 (0 : Int)), (.int .i64 (0 : Int))] 23) fun (r1 : Nat) =>
 guardW ((#[(.int .i64 (128 : Int)), (.int .i64 (12 : Int))] : Array Value).size = 2) <|
 stAW (⟨r1, 0, none⟩ : Addr) [(.int .i64 (128 : Int)), (.int .i64 (12 : Int))] <|
 ldAW [(.int .i64), (.int .i64)] (⟨r1, 0, none⟩ : Addr) fun (u2 : (Int × Int × Unit)) => K (.agg #[(.int .i64 u2.1), (.int .i64 u2.2.1)])
theorem eq22  (K : Value → WP) : bodyW Tryz.prog Tryz.f22 an22 false [] K = S22  K := by kernel_rfl
theorem calls22  {K : Value → WP} {w : World} (h : S22  K w) : Calls Tryz.prog 22 #[] w (Ret K) := callsR_of_bodyW mixed Tryz.func22 (of_decide_eq_true (by kernel_rfl)) (by rw [eq22]; exact h)
def an23 : Ann := (.seq .nil (.seq (.seq .nil (.cond (.seq .nil .nil) .nil)) (.seq (.seq .nil (.block (.loop [(7, .sh (.one (.int .u32)))] [] (.seq .nil (.block .nil))))) (.seq .nil .nil))))
def S23 (x0 : Option Addr) (K : Value → WP) : WP := 
 newW (.cells #[(.int .i64 (0 : Int))] 3) fun (r1 : Nat) =>
 splitW (Option.isNone x0) (stW (⟨r1, 0, none⟩ : Addr) (.int .i64 (0 : Int)) <|
 leaveW Tryz.prog [] <|
 ldW (.int .i64) (⟨r1, 0, none⟩ : Addr) fun (u2 : Int) => K (.int .i64 u2)) <|
 callW Tryz.prog 53 [(.pointer x0)] (.one (.one .any)) fun (u3 : Value) =>
 rangeW Tryz.prog u3 (Int × Unit) (fun (t4 : Int × Unit) => [(.int .u32 t4.1)]) (fun (t4 : Int × Unit) (B5 : WP → WP) (N6 : WP) (Q7 : Code → WP) => B5 (ldW (.int .i64) (⟨r1, 0, none⟩ : Addr) fun (u10 : Int) =>
 stW (⟨r1, 0, none⟩ : Addr) (.int .i64 (IntKind.wrap .i64 (u10 + (1 : Int)))) <| N6)) fun (r8 : Nat) (p9 : Option Code) =>
 jumpK (ldW (.int .i64) (⟨r1, 0, none⟩ : Addr) fun (u11 : Int) =>
 stW (⟨r1, 0, none⟩ : Addr) (.int .i64 u11) <|
 leaveW Tryz.prog (⟨.collected r8, #[]⟩ :: []) <|
 ldW (.int .i64) (⟨r1, 0, none⟩ : Addr) fun (u12 : Int) => K (.int .i64 u12)) (leaveW Tryz.prog (⟨.collected r8, #[]⟩ :: []) <|
 ldW (.int .i64) (⟨r1, 0, none⟩ : Addr) fun (u13 : Int) => K (.int .i64 u13)) [] p9
theorem eq23 (x0 : Option Addr) (K : Value → WP) : bodyW Tryz.prog Tryz.f23 an23 true [(.pointer x0)] K = S23 x0 K := by kernel_rfl
theorem calls23 (x0 : Option Addr) {K : Value → WP} {w : World} (h : S23 x0 K w) : Calls Tryz.prog 23 #[(.pointer x0)] w (Ret K) := callsR_of_bodyW mixed Tryz.func23 (of_decide_eq_true (by kernel_rfl)) (by rw [eq23]; exact h)
def an24 : Ann := (.seq .nil (.seq (.block (.seq .nil (.cond (.seq .nil .nil) (.join [(15, .sh (.one .bool))] [2, 3, 1000000] .nil (.cond (.seq .nil .nil) (.seq .nil (.cond (.seq .nil .nil) (.join [(36, .sh (.one .bool))] [2, 3, 1000000] .nil (.cond (.seq .nil .nil) (.seq .nil (.cond (.seq .nil .nil) .nil))))))))))) (.seq .nil (.seq (.seq .nil (.cond (.seq .nil .nil) .nil)) (.seq .nil (.seq (.seq .nil (.block (.loop [(8, .sh (.one .slc)), (81, .sh (.one (.int .i64)))] [2, 3, 6, 79, 80, 1000000] (.seq .nil (.seq (.cond .nil .nil) (.seq (.block (.seq .nil .nil)) .nil)))))) (.seq (.seq .nil (.seq .nil (.cond (.seq .nil .nil) .nil))) (.seq .nil .nil))))))))
def S24 (x0 : Option Addr) (x1_0 : Int) (a1_1 : Option Addr) (n1_1 c1_1 : Nat) (x1_2 : ByteArray) (K : Value → WP) : WP := 
 newW (.cells #[(.pointer x0)] 39) fun (r1 : Nat) =>
 newW (.cells #[(.int .u8 x1_0), (.slice a1_1 n1_1 c1_1), (.string x1_2)] 69) fun (r2 : Nat) =>
 ldW .ptr (⟨r1, 0, none⟩ : Addr) fun (u3 : Option Addr) =>
 splitW (Option.isNone u3) (K (.tuple #[(.int .u32 (0 : Int)), (.int .i64 (1 : Int))])) <|
 joinW (Bool × Unit) (fun (J4 : (Bool × Unit) → WP) =>
 ldW (.int .u8) (⟨r2, 0, none⟩ : Addr) fun (u6 : Int) =>
 splitW (decide (u6 < (3 : Int))) (J4 (true, ())) <|
 ldW .slc ((⟨r2, 0, none⟩ : Addr).add 1) fun (u7 : (Option Addr × Nat × Nat)) =>
 splitW (decide (((u7.2.1 : Nat) : Int) > (65535 : Int))) (J4 (true, ())) <|
 ldW .slc ((⟨r2, 0, none⟩ : Addr).add 1) fun (u8 : (Option Addr × Nat × Nat)) =>
 callW Tryz.prog 54 [(.slice u8.1 u8.2.1 u8.2.2), (.func (.func 55) #[] #[(.pointer (some (⟨r1, 0, none⟩ : Addr)))])] (.one (.one .bool)) fun (u9 : Bool) => J4 (u9, ())) fun (y5 : Bool × Unit) =>
 splitW y5.1 (K (.tuple #[(.int .u32 (0 : Int)), (.int .i64 (2 : Int))])) <|
 ldW .slc ((⟨r2, 0, none⟩ : Addr).add 1) fun (u10 : (Option Addr × Nat × Nat)) =>
 callW Tryz.prog 54 [(.slice u10.1 u10.2.1 u10.2.2), (.func (.func 56) #[] #[(.pointer (some (⟨r1, 0, none⟩ : Addr)))])] (.one (.one .bool)) fun (u11 : Bool) =>
 splitW u11 (K (.tuple #[(.int .u32 (0 : Int)), (.int .i64 (8 : Int))])) <|
 joinW (Bool × Unit) (fun (J12 : (Bool × Unit) → WP) =>
 drewW <|
 ldW .slc ((⟨r2, 0, none⟩ : Addr).add 1) fun (u14 : (Option Addr × Nat × Nat)) =>
 ldW .ptr (⟨r1, 0, none⟩ : Addr) fun (u15 : Option Addr) =>
 callW Tryz.prog 57 [(.pointer u15), (.int .i64 (0 : Int))] (.one (.one (.int .i64))) fun (u16 : Int) =>
 heldW [[(((⟨r2, 0, none⟩ : Addr).add 1), (.slice u14.1 u14.2.1 u14.2.2))]] <|
 splitW (decide (((u14.2.1 : Nat) : Int) > (IntKind.wrap .i64 (Int.tdiv u16 (4 : Int))))) (J12 (true, ())) <|
 ldW .str ((⟨r2, 0, none⟩ : Addr).add 2) fun (u17 : ByteArray) =>
 ldW .ptr (⟨r1, 0, none⟩ : Addr) fun (u18 : Option Addr) =>
 ldW .slc ((⟨r2, 0, none⟩ : Addr).add 1) fun (u19 : (Option Addr × Nat × Nat)) =>
 callW Tryz.prog 57 [(.pointer u18), (.int .i64 ((u19.2.1 : Nat) : Int))] (.one (.one (.int .i64))) fun (u20 : Int) =>
 heldW [[(((⟨r2, 0, none⟩ : Addr).add 2), (.string u17))]] <| J12 ((decide (((u17.size : Nat) : Int) > u20)), ())) fun (y13 : Bool × Unit) =>
 splitW y13.1 (K (.tuple #[(.int .u32 (0 : Int)), (.int .i64 (3 : Int))])) <|
 drewW <|
 ldW .ptr (⟨r1, 0, none⟩ : Addr) fun (u21 : Option Addr) =>
 ldW .ptr (⟨r1, 0, none⟩ : Addr) fun (u22 : Option Addr) =>
 ptrW u22 fun (p23 : Addr) =>
 ldW .slc ((p23.add 1).add 4) fun (u24 : (Option Addr × Nat × Nat)) =>
 callW Tryz.prog 23 [(.pointer u21)] (.one (.one (.int .i64))) fun (u25 : Int) =>
 heldW [[(((p23.add 1).add 4), (.slice u24.1 u24.2.1 u24.2.2))], [((⟨r1, 0, none⟩ : Addr), (.pointer u22))]] <|
 splitW (decide (u25 ≤ ((u24.2.1 : Nat) : Int))) (K (.tuple #[(.int .u32 (0 : Int)), (.int .i64 (9 : Int))])) <|
 ldW .ptr (⟨r1, 0, none⟩ : Addr) fun (u26 : Option Addr) =>
 callW Tryz.prog 43 [(.pointer u26)] (.many [(.one (.int .u32)), (.one (.int .i64))]) fun (u27 : Int × Int × Unit) =>
 splitW (u27.2.1 != (0 : Int)) (K (.tuple #[(.int .u32 (0 : Int)), (.int .i64 u27.2.1)])) <|
 ldW .slc ((⟨r2, 0, none⟩ : Addr).add 1) fun (u28 : (Option Addr × Nat × Nat)) =>
 callW Tryz.prog 58 [(.slice none 0 0), (.int .u64 (IntKind.wrap .u64 ((u28.2.1 : Nat) : Int))), (.int .i64 (2 : Int))] (.one (.one .slc)) fun (u29 : (Option Addr × Nat × Nat)) =>
 ldW .slc ((⟨r2, 0, none⟩ : Addr).add 1) fun (u30 : (Option Addr × Nat × Nat)) =>
 loopW ((Option Addr × Nat × Nat) × Int × Unit) ((u29.1, u29.2.1, u29.2.2), (0 : Int), ()) fun (y32 : (Option Addr × Nat × Nat) × Int × Unit) (I31 : ((Option Addr × Nat × Nat) × Int × Unit) → WP) =>
 splitW (decide (y32.2.1 < ((u30.2.1 : Nat) : Int))) (guardW (0 ≤ y32.2.1 ∧ y32.2.1 < ((u30.2.1 : Nat) : Int)) <|
 ptrW u30.1 fun (p33 : Addr) =>
 ldW (.int .u32) (p33.add (Int.toNat y32.2.1 * 1)) fun (u34 : Int) =>
 callW Tryz.prog 58 [(.slice y32.1.1 y32.1.2.1 y32.1.2.2), (.int .u64 (IntKind.wrap .u64 u34)), (.int .i64 (4 : Int))] (.one (.one .slc)) fun (u35 : (Option Addr × Nat × Nat)) => I31 ((u35.1, u35.2.1, u35.2.2), (IntKind.wrap .i64 (y32.2.1 + (1 : Int))), ())) <|
 drewW <|
 ldW .ptr (⟨r1, 0, none⟩ : Addr) fun (u36 : Option Addr) =>
 ptrW u36 fun (p37 : Addr) =>
 ldW .ptr p37 fun (u38 : Option Addr) =>
 ldW (.int .u8) (⟨r2, 0, none⟩ : Addr) fun (u39 : Int) =>
 ldW .ptr (⟨r1, 0, none⟩ : Addr) fun (u40 : Option Addr) =>
 ptrW u40 fun (p41 : Addr) =>
 ldW (.int .u64) (p41.add 1) fun (u42 : Int) =>
 ldW .str ((⟨r2, 0, none⟩ : Addr).add 2) fun (u43 : ByteArray) =>
 runW Tryz.prog (Go.convert 93 9 (.slice y32.1.1 y32.1.2.1 y32.1.2.2)) .str fun (u44 : ByteArray) =>
 heldW [[(((⟨r2, 0, none⟩ : Addr).add 2), (.string u43))], [((p41.add 1), (.int .u64 u42))], [((⟨r1, 0, none⟩ : Addr), (.pointer u40))], [((⟨r2, 0, none⟩ : Addr), (.int .u8 u39))], [(p37, (.pointer u38))], [((⟨r1, 0, none⟩ : Addr), (.pointer u36))]] <|
 guardW (((u44.size + u43.size : Nat) : Int) ≤ IntKind.i64.max) <|
 callW Tryz.prog 59 [(.pointer u38), (.int .u32 u27.1), (.agg #[(.int .u8 u39), (.int .u64 (IntKind.wrap .u64 (u42 + (1 : Int)))), (.string (u44 ++ u43))])] (.one (.one (.int .i64))) fun (u45 : Int) =>
 splitW (u45 != (0 : Int)) (K (.tuple #[(.int .u32 (0 : Int)), (.int .i64 u45)])) <| K (.tuple #[(.int .u32 u27.1), (.int .i64 (0 : Int))])
theorem eq24 (x0 : Option Addr) (x1_0 : Int) (a1_1 : Option Addr) (n1_1 c1_1 : Nat) (x1_2 : ByteArray) (K : Value → WP) : bodyW Tryz.prog Tryz.f24 an24 false [(.pointer x0), (.agg #[(.int .u8 x1_0), (.slice a1_1 n1_1 c1_1), (.string x1_2)])] K = S24 x0 x1_0 a1_1 n1_1 c1_1 x1_2 K := by kernel_rfl
theorem calls24 (x0 : Option Addr) (x1_0 : Int) (a1_1 : Option Addr) (n1_1 c1_1 : Nat) (x1_2 : ByteArray) {K : Value → WP} {w : World} (h : S24 x0 x1_0 a1_1 n1_1 c1_1 x1_2 K w) : Calls Tryz.prog 24 #[(.pointer x0), (.agg #[(.int .u8 x1_0), (.slice a1_1 n1_1 c1_1), (.string x1_2)])] w (Ret K) := callsR_of_bodyW mixed Tryz.func24 (of_decide_eq_true (by kernel_rfl)) (by rw [eq24]; exact h)
def an25 : Ann := (.seq .nil (.seq (.block (.seq .nil (.cond (.seq .nil .nil) (.seq .nil (.cond (.seq .nil .nil) (.seq .nil (.cond (.seq .nil .nil) .nil))))))) (.seq .nil (.seq (.seq .nil (.cond (.seq .nil .nil) .nil)) (.seq .nil .nil)))))
def S25 (x0 : Option Addr) (x1 : Int) (K : Value → WP) : WP := 
 newW (.cells #[(.int .u8 (0 : Int)), (.slice none 0 0), (.string ByteArray.empty)] 69) fun (r1 : Nat) =>
 splitW (Option.isNone x0) (guardW ((#[(.int .u8 (0 : Int)), (.slice none 0 0), (.string ByteArray.empty)] : Array Value).size = 3) <|
 stAW (⟨r1, 0, none⟩ : Addr) [(.int .u8 (0 : Int)), (.slice none 0 0), (.string ByteArray.empty)] <|
 ldAW [(.int .u8), .slc, .str] (⟨r1, 0, none⟩ : Addr) fun (u2 : (Int × (Option Addr × Nat × Nat) × ByteArray × Unit)) => K (.tuple #[(.agg #[(.int .u8 u2.1), (.slice u2.2.1.1 u2.2.1.2.1 u2.2.1.2.2), (.string u2.2.2.1)]), (.int .i64 (1 : Int))])) <|
 callW Tryz.prog 41 [(.pointer x0), (.int .u32 x1)] (.one (.one .bool)) fun (u3 : Bool) =>
 splitW (!u3) (guardW ((#[(.int .u8 (0 : Int)), (.slice none 0 0), (.string ByteArray.empty)] : Array Value).size = 3) <|
 stAW (⟨r1, 0, none⟩ : Addr) [(.int .u8 (0 : Int)), (.slice none 0 0), (.string ByteArray.empty)] <|
 ldAW [(.int .u8), .slc, .str] (⟨r1, 0, none⟩ : Addr) fun (u4 : (Int × (Option Addr × Nat × Nat) × ByteArray × Unit)) => K (.tuple #[(.agg #[(.int .u8 u4.1), (.slice u4.2.1.1 u4.2.1.2.1 u4.2.1.2.2), (.string u4.2.2.1)]), (.int .i64 (2 : Int))])) <|
 ptrW x0 fun (p5 : Addr) =>
 ldW .ptr (p5.add 8) fun (u6 : Option Addr) =>
 callW Tryz.prog 42 [(.pointer u6), (.int .u32 x1)] (.one (.one (.int .i64))) fun (u7 : Int) =>
 splitW (u7 == (0 : Int)) (guardW ((#[(.int .u8 (0 : Int)), (.slice none 0 0), (.string ByteArray.empty)] : Array Value).size = 3) <|
 stAW (⟨r1, 0, none⟩ : Addr) [(.int .u8 (0 : Int)), (.slice none 0 0), (.string ByteArray.empty)] <|
 ldAW [(.int .u8), .slc, .str] (⟨r1, 0, none⟩ : Addr) fun (u8 : (Int × (Option Addr × Nat × Nat) × ByteArray × Unit)) => K (.tuple #[(.agg #[(.int .u8 u8.1), (.slice u8.2.1.1 u8.2.1.2.1 u8.2.1.2.2), (.string u8.2.2.1)]), (.int .i64 (8 : Int))])) <|
 ptrW x0 fun (p9 : Addr) =>
 ldW .ptr p9 fun (u10 : Option Addr) =>
 callW Tryz.prog 12 [(.pointer u10), (.int .i64 (IntKind.wrap .i64 x1))] (.many [(.one .str), (.one (.int .i64))]) fun (u11 : ByteArray × Int × Unit) =>
 splitW (u11.2.1 != (0 : Int)) (guardW ((#[(.int .u8 (0 : Int)), (.slice none 0 0), (.string ByteArray.empty)] : Array Value).size = 3) <|
 stAW (⟨r1, 0, none⟩ : Addr) [(.int .u8 (0 : Int)), (.slice none 0 0), (.string ByteArray.empty)] <|
 ldAW [(.int .u8), .slc, .str] (⟨r1, 0, none⟩ : Addr) fun (u12 : (Int × (Option Addr × Nat × Nat) × ByteArray × Unit)) => K (.tuple #[(.agg #[(.int .u8 u12.1), (.slice u12.2.1.1 u12.2.1.2.1 u12.2.1.2.2), (.string u12.2.2.1)]), (.int .i64 u11.2.1)])) <|
 callW Tryz.prog 60 [(.pointer x0), (.string u11.1)] (.many [(.agg [(.int .u8), .slc, .str]), (.one (.int .i64))]) fun (u13 : (Int × (Option Addr × Nat × Nat) × ByteArray × Unit) × Int × Unit) =>
 guardW ((#[(.int .u8 u13.1.1), (.slice u13.1.2.1.1 u13.1.2.1.2.1 u13.1.2.1.2.2), (.string u13.1.2.2.1)] : Array Value).size = 3) <|
 stAW (⟨r1, 0, none⟩ : Addr) [(.int .u8 u13.1.1), (.slice u13.1.2.1.1 u13.1.2.1.2.1 u13.1.2.1.2.2), (.string u13.1.2.2.1)] <|
 ldAW [(.int .u8), .slc, .str] (⟨r1, 0, none⟩ : Addr) fun (u14 : (Int × (Option Addr × Nat × Nat) × ByteArray × Unit)) => K (.tuple #[(.agg #[(.int .u8 u14.1), (.slice u14.2.1.1 u14.2.1.2.1 u14.2.1.2.2), (.string u14.2.2.1)]), (.int .i64 u13.2.1)])
theorem eq25 (x0 : Option Addr) (x1 : Int) (K : Value → WP) : bodyW Tryz.prog Tryz.f25 an25 false [(.pointer x0), (.int .u32 x1)] K = S25 x0 x1 K := by kernel_rfl
theorem calls25 (x0 : Option Addr) (x1 : Int) {K : Value → WP} {w : World} (h : S25 x0 x1 K w) : Calls Tryz.prog 25 #[(.pointer x0), (.int .u32 x1)] w (Ret K) := callsR_of_bodyW mixed Tryz.func25 (of_decide_eq_true (by kernel_rfl)) (by rw [eq25]; exact h)
def an26 : Ann := (.seq .nil (.seq (.block (.seq .nil (.cond (.seq .nil .nil) (.seq .nil (.cond (.seq .nil .nil) .nil))))) (.seq .nil (.seq .nil (.seq (.block (.loop [(5, .sh (.one .slc))] [0, 1000000] (.seq (.seq .nil (.cond .nil .nil)) (.block (.seq .nil (.seq .nil (.seq .nil (.seq (.seq .nil (.cond (.seq (.seq .nil (.seq .nil (.cond (.seq .nil .nil) .nil))) .nil) .nil)) (.seq .nil (.seq (.seq .nil (.cond (.seq .nil .nil) .nil)) (.seq (.seq .nil (.seq .nil (.cond (.seq .nil .nil) .nil))) (.seq .nil .nil)))))))))))) (.seq .nil .nil))))))
def S26 (x0 : Option Addr) (x1 : Int) (K : Value → WP) : WP := 
 splitW (Option.isNone x0) (K (.int .i64 (1 : Int))) <|
 callW Tryz.prog 41 [(.pointer x0), (.int .u32 x1)] (.one (.one .bool)) fun (u1 : Bool) =>
 splitW (!u1) (K (.int .i64 (2 : Int))) <|
 newW (.cells #[(.int .u32 x1)] 31) fun (r2 : Nat) =>
 loopW ((Option Addr × Nat × Nat) × Unit) (((some (⟨r2, 0, none⟩ : Addr)), 1, 1), ()) fun (y4 : (Option Addr × Nat × Nat) × Unit) (I3 : ((Option Addr × Nat × Nat) × Unit) → WP) =>
 splitW (decide (((y4.1.2.1 : Nat) : Int) > (0 : Int))) (guardW (0 ≤ (IntKind.wrap .i64 (((y4.1.2.1 : Nat) : Int) - (1 : Int))) ∧ (IntKind.wrap .i64 (((y4.1.2.1 : Nat) : Int) - (1 : Int))) < ((y4.1.2.1 : Nat) : Int)) <|
 ptrW y4.1.1 fun (p5 : Addr) =>
 ldW (.int .u32) (p5.add (Int.toNat (IntKind.wrap .i64 (((y4.1.2.1 : Nat) : Int) - (1 : Int))) * 1)) fun (u6 : Int) =>
 guardW (0 ≤ (IntKind.wrap .i64 (((y4.1.2.1 : Nat) : Int) - (1 : Int))) ∧ (IntKind.wrap .i64 (((y4.1.2.1 : Nat) : Int) - (1 : Int))) ≤ ((y4.1.2.2 : Nat) : Int)) <|
 ptrW x0 fun (p7 : Addr) =>
 ldW .ptr (p7.add 8) fun (u8 : Option Addr) =>
 callW Tryz.prog 42 [(.pointer u8), (.int .u32 u6)] (.one (.one (.int .i64))) fun (u9 : Int) =>
 splitW (u9 != (1 : Int)) (ptrW x0 fun (p10 : Addr) =>
 ldW .ptr (p10.add 8) fun (u11 : Option Addr) =>
 callW Tryz.prog 44 [(.pointer u11), (.int .u32 u6)] (.many [(.one (.int .i64)), (.one (.int .i64))]) fun (u12 : Int × Int × Unit) =>
 splitW (u12.2.1 != (0 : Int)) (K (.int .i64 u12.2.1)) <| I3 (((cutAddr y4.1.1 0 y4.1.2.2 1), (Int.toNat (IntKind.wrap .i64 (((y4.1.2.1 : Nat) : Int) - (1 : Int)))), y4.1.2.2), ())) <|
 callW Tryz.prog 25 [(.pointer x0), (.int .u32 u6)] (.many [(.agg [(.int .u8), .slc, .str]), (.one (.int .i64))]) fun (u13 : (Int × (Option Addr × Nat × Nat) × ByteArray × Unit) × Int × Unit) =>
 newW (.cells #[(.int .u8 (0 : Int)), (.slice none 0 0), (.string ByteArray.empty)] 69) fun (r14 : Nat) =>
 guardW ((#[(.int .u8 u13.1.1), (.slice u13.1.2.1.1 u13.1.2.1.2.1 u13.1.2.1.2.2), (.string u13.1.2.2.1)] : Array Value).size = 3) <|
 stAW (⟨r14, 0, none⟩ : Addr) [(.int .u8 u13.1.1), (.slice u13.1.2.1.1 u13.1.2.1.2.1 u13.1.2.1.2.2), (.string u13.1.2.2.1)] <|
 splitW (u13.2.1 != (0 : Int)) (K (.int .i64 u13.2.1)) <|
 ptrW x0 fun (p15 : Addr) =>
 ldW .ptr (p15.add 8) fun (u16 : Option Addr) =>
 callW Tryz.prog 44 [(.pointer u16), (.int .u32 u6)] (.many [(.one (.int .i64)), (.one (.int .i64))]) fun (u17 : Int × Int × Unit) =>
 splitW (u17.2.1 != (0 : Int)) (K (.int .i64 u17.2.1)) <|
 ldW .slc ((⟨r14, 0, none⟩ : Addr).add 1) fun (u18 : (Option Addr × Nat × Nat)) =>
 callW Tryz.prog 61 [(.slice u18.1 u18.2.1 u18.2.2)] .none fun (u19 : Unit) =>
 ldW .slc ((⟨r14, 0, none⟩ : Addr).add 1) fun (u20 : (Option Addr × Nat × Nat)) =>
 runW Tryz.prog (Builtin.append_ #[40, 40] 40 #[(.slice (cutAddr y4.1.1 0 y4.1.2.2 1) (Int.toNat (IntKind.wrap .i64 (((y4.1.2.1 : Nat) : Int) - (1 : Int)))) y4.1.2.2), (.slice u20.1 u20.2.1 u20.2.2)]) .slc fun (u21 : (Option Addr × Nat × Nat)) => I3 ((u21.1, u21.2.1, u21.2.2), ())) <| K (.int .i64 (0 : Int))
theorem eq26 (x0 : Option Addr) (x1 : Int) (K : Value → WP) : bodyW Tryz.prog Tryz.f26 an26 false [(.pointer x0), (.int .u32 x1)] K = S26 x0 x1 K := by kernel_rfl
theorem calls26 (x0 : Option Addr) (x1 : Int) {K : Value → WP} {w : World} (h : S26 x0 x1 K w) : Calls Tryz.prog 26 #[(.pointer x0), (.int .u32 x1)] w (Ret K) := callsR_of_bodyW mixed Tryz.func26 (of_decide_eq_true (by kernel_rfl)) (by rw [eq26]; exact h)
def an27 : Ann := (.seq .nil (.seq .nil .nil))
def S27 (x0_0 : Int) (a0_1 : Option Addr) (n0_1 c0_1 : Nat) (x0_2 : ByteArray) (x1_0 : Int) (a1_1 : Option Addr) (n1_1 c1_1 : Nat) (x1_2 : ByteArray) (K : Value → WP) : WP := 
 newW (.cells #[(.int .u8 x0_0), (.slice a0_1 n0_1 c0_1), (.string x0_2)] 69) fun (r1 : Nat) =>
 newW (.cells #[(.int .u8 x1_0), (.slice a1_1 n1_1 c1_1), (.string x1_2)] 69) fun (r2 : Nat) =>
 ldW (.int .u8) (⟨r1, 0, none⟩ : Addr) fun (u3 : Int) =>
 ldW (.int .u8) (⟨r2, 0, none⟩ : Addr) fun (u4 : Int) =>
 splitW (u3 == u4) (ldW .str ((⟨r1, 0, none⟩ : Addr).add 2) fun (u5 : ByteArray) =>
 ldW .str ((⟨r2, 0, none⟩ : Addr).add 2) fun (u6 : ByteArray) =>
 splitW (u5.toList == u6.toList) (ldW .slc ((⟨r1, 0, none⟩ : Addr).add 1) fun (u7 : (Option Addr × Nat × Nat)) =>
 ldW .slc ((⟨r2, 0, none⟩ : Addr).add 1) fun (u8 : (Option Addr × Nat × Nat)) =>
 callW Tryz.prog 62 [(.slice u7.1 u7.2.1 u7.2.2), (.slice u8.1 u8.2.1 u8.2.2)] (.one (.one .bool)) fun (u9 : Bool) => K (.bool u9)) <| K (.bool false)) <| K (.bool false)
theorem eq27 (x0_0 : Int) (a0_1 : Option Addr) (n0_1 c0_1 : Nat) (x0_2 : ByteArray) (x1_0 : Int) (a1_1 : Option Addr) (n1_1 c1_1 : Nat) (x1_2 : ByteArray) (K : Value → WP) : bodyW Tryz.prog Tryz.f27 an27 false [(.agg #[(.int .u8 x0_0), (.slice a0_1 n0_1 c0_1), (.string x0_2)]), (.agg #[(.int .u8 x1_0), (.slice a1_1 n1_1 c1_1), (.string x1_2)])] K = S27 x0_0 a0_1 n0_1 c0_1 x0_2 x1_0 a1_1 n1_1 c1_1 x1_2 K := by kernel_rfl
theorem calls27 (x0_0 : Int) (a0_1 : Option Addr) (n0_1 c0_1 : Nat) (x0_2 : ByteArray) (x1_0 : Int) (a1_1 : Option Addr) (n1_1 c1_1 : Nat) (x1_2 : ByteArray) {K : Value → WP} {w : World} (h : S27 x0_0 a0_1 n0_1 c0_1 x0_2 x1_0 a1_1 n1_1 c1_1 x1_2 K w) : Calls Tryz.prog 27 #[(.agg #[(.int .u8 x0_0), (.slice a0_1 n0_1 c0_1), (.string x0_2)]), (.agg #[(.int .u8 x1_0), (.slice a1_1 n1_1 c1_1), (.string x1_2)])] w (Ret K) := callsR_of_bodyW mixed Tryz.func27 (of_decide_eq_true (by kernel_rfl)) (by rw [eq27]; exact h)
def an28 : Ann := (.seq .nil (.seq (.seq .nil (.cond (.seq .nil .nil) .nil)) (.seq .nil .nil)))
def S28 (x0 : Option Addr) (x1 : Int) (K : Value → WP) : WP := 
 ptrW x0 fun (p1 : Addr) =>
 ldW .slc (p1.add 2) fun (u2 : (Option Addr × Nat × Nat)) =>
 splitW (((u2.2.1 : Nat) : Int) == (0 : Int)) (K (.int .i64 (-1 : Int))) <|
 ptrW x0 fun (p3 : Addr) =>
 ldW .slc (p3.add 2) fun (u4 : (Option Addr × Nat × Nat)) =>
 callW Tryz.prog 14 [(.int .i64 x1), (.int .i64 ((u4.2.1 : Nat) : Int))] (.one (.one (.int .i64))) fun (u5 : Int) => K (.int .i64 u5)
theorem eq28 (x0 : Option Addr) (x1 : Int) (K : Value → WP) : bodyW Tryz.prog Tryz.f28 an28 false [(.pointer x0), (.int .i64 x1)] K = S28 x0 x1 K := by kernel_rfl
theorem calls28 (x0 : Option Addr) (x1 : Int) {K : Value → WP} {w : World} (h : S28 x0 x1 K w) : Calls Tryz.prog 28 #[(.pointer x0), (.int .i64 x1)] w (Ret K) := callsR_of_bodyW mixed Tryz.func28 (of_decide_eq_true (by kernel_rfl)) (by rw [eq28]; exact h)
def an29 : Ann := (.seq .nil (.seq .nil (.seq .nil .nil)))
def S29 (x0 : Option Addr) (x1_0 : Int) (x1_1 : Int) (x1_2 : Int) (x1_3 : Int) (x1_4 : ByteArray) (K : Value → WP) : WP := 
 newW (.cells #[(.int .i64 x1_0), (.int .u8 x1_1), (.int .i64 x1_2), (.int .i64 x1_3), (.string x1_4)] 36) fun (r1 : Nat) =>
 newW (.cells #[(.int .u8 (0 : Int)), (.slice none 0 0), (.string ByteArray.empty)] 69) fun (r2 : Nat) =>
 drewW <|
 ldW (.int .i64) ((⟨r1, 0, none⟩ : Addr).add 2) fun (u3 : Int) =>
 ptrW x0 fun (p4 : Addr) =>
 ldW .slc (p4.add 2) fun (u5 : (Option Addr × Nat × Nat)) =>
 callW Tryz.prog 14 [(.int .i64 u3), (.int .i64 (if (IntKind.wrap .i64 (((u5.2.1 : Nat) : Int) + (1 : Int))) < (4 : Int) then (IntKind.wrap .i64 (((u5.2.1 : Nat) : Int) + (1 : Int))) else (4 : Int)))] (.one (.one (.int .i64))) fun (u6 : Int) =>
 drewW <|
 ldW (.int .u8) ((⟨r1, 0, none⟩ : Addr).add 1) fun (u7 : Int) =>
 ptrW x0 fun (p8 : Addr) =>
 ldW .slc (p8.add 2) fun (u9 : (Option Addr × Nat × Nat)) =>
 ptrW x0 fun (p10 : Addr) =>
 ldW .slc (p10.add 2) fun (u11 : (Option Addr × Nat × Nat)) =>
 guardW (0 ≤ (IntKind.wrap .i64 (((u11.2.1 : Nat) : Int) - u6)) ∧ (IntKind.wrap .i64 (((u11.2.1 : Nat) : Int) - u6)) ≤ ((u9.2.1 : Nat) : Int)) <|
 ldW .str ((⟨r1, 0, none⟩ : Addr).add 4) fun (u12 : ByteArray) =>
 callW Tryz.prog 30 [(.slice (cutAddr u9.1 (Int.toNat (IntKind.wrap .i64 (((u11.2.1 : Nat) : Int) - u6))) u9.2.2 1) (u9.2.1 - (Int.toNat (IntKind.wrap .i64 (((u11.2.1 : Nat) : Int) - u6)))) (u9.2.2 - (Int.toNat (IntKind.wrap .i64 (((u11.2.1 : Nat) : Int) - u6)))))] (.one (.one .slc)) fun (u13 : (Option Addr × Nat × Nat)) =>
 heldW [[(((⟨r1, 0, none⟩ : Addr).add 4), (.string u12))], [(((⟨r1, 0, none⟩ : Addr).add 1), (.int .u8 u7))]] <|
 guardW ((#[(.int .u8 (IntKind.wrap .u8 ((3 : Int) + (Int.tmod u7 (200 : Int))))), (.slice u13.1 u13.2.1 u13.2.2), (.string u12)] : Array Value).size = 3) <|
 stAW (⟨r2, 0, none⟩ : Addr) [(.int .u8 (IntKind.wrap .u8 ((3 : Int) + (Int.tmod u7 (200 : Int))))), (.slice u13.1 u13.2.1 u13.2.2), (.string u12)] <|
 ldAW [(.int .u8), .slc, .str] (⟨r2, 0, none⟩ : Addr) fun (u14 : (Int × (Option Addr × Nat × Nat) × ByteArray × Unit)) => K (.agg #[(.int .u8 u14.1), (.slice u14.2.1.1 u14.2.1.2.1 u14.2.1.2.2), (.string u14.2.2.1)])
theorem eq29 (x0 : Option Addr) (x1_0 : Int) (x1_1 : Int) (x1_2 : Int) (x1_3 : Int) (x1_4 : ByteArray) (K : Value → WP) : bodyW Tryz.prog Tryz.f29 an29 false [(.pointer x0), (.agg #[(.int .i64 x1_0), (.int .u8 x1_1), (.int .i64 x1_2), (.int .i64 x1_3), (.string x1_4)])] K = S29 x0 x1_0 x1_1 x1_2 x1_3 x1_4 K := by kernel_rfl
theorem calls29 (x0 : Option Addr) (x1_0 : Int) (x1_1 : Int) (x1_2 : Int) (x1_3 : Int) (x1_4 : ByteArray) {K : Value → WP} {w : World} (h : S29 x0 x1_0 x1_1 x1_2 x1_3 x1_4 K w) : Calls Tryz.prog 29 #[(.pointer x0), (.agg #[(.int .i64 x1_0), (.int .u8 x1_1), (.int .i64 x1_2), (.int .i64 x1_3), (.string x1_4)])] w (Ret K) := callsR_of_bodyW mixed Tryz.func29 (of_decide_eq_true (by kernel_rfl)) (by rw [eq29]; exact h)
def an30 : Ann := (.seq .nil (.seq .nil .nil))
def S30 (a0 : Option Addr) (n0 c0 : Nat) (K : Value → WP) : WP := 
 newW (.cells #[] 31) fun (r1 : Nat) =>
 runW Tryz.prog (Builtin.append_ #[40, 40] 40 #[(.slice (some (⟨r1, 0, none⟩ : Addr)) 0 0), (.slice a0 n0 c0)]) .slc fun (u2 : (Option Addr × Nat × Nat)) => K (.slice u2.1 u2.2.1 u2.2.2)
theorem eq30 (a0 : Option Addr) (n0 c0 : Nat) (K : Value → WP) : bodyW Tryz.prog Tryz.f30 an30 false [(.slice a0 n0 c0)] K = S30 a0 n0 c0 K := by kernel_rfl
theorem calls30 (a0 : Option Addr) (n0 c0 : Nat) {K : Value → WP} {w : World} (h : S30 a0 n0 c0 K w) : Calls Tryz.prog 30 #[(.slice a0 n0 c0)] w (Ret K) := callsR_of_bodyW mixed Tryz.func30 (of_decide_eq_true (by kernel_rfl)) (by rw [eq30]; exact h)
def an31 : Ann := (.seq .nil (.seq (.block (.seq .nil (.cond (.seq .nil .nil) (.seq .nil (.cond (.seq .nil .nil) .nil))))) (.seq .nil .nil)))
def S31 (x0 : Option Addr) (x1 : Int) (K : Value → WP) : WP := 
 splitW (Option.isNone x0) (K (.int .i64 (1 : Int))) <|
 callW Tryz.prog 41 [(.pointer x0), (.int .u32 x1)] (.one (.one .bool)) fun (u1 : Bool) =>
 splitW (!u1) (K (.int .i64 (2 : Int))) <|
 ptrW x0 fun (p2 : Addr) =>
 ldW .ptr (p2.add 8) fun (u3 : Option Addr) =>
 callW Tryz.prog 63 [(.pointer u3), (.int .u32 x1)] (.one (.one (.int .i64))) fun (u4 : Int) => K (.int .i64 u4)
theorem eq31 (x0 : Option Addr) (x1 : Int) (K : Value → WP) : bodyW Tryz.prog Tryz.f31 an31 false [(.pointer x0), (.int .u32 x1)] K = S31 x0 x1 K := by kernel_rfl
theorem calls31 (x0 : Option Addr) (x1 : Int) {K : Value → WP} {w : World} (h : S31 x0 x1 K w) : Calls Tryz.prog 31 #[(.pointer x0), (.int .u32 x1)] w (Ret K) := callsR_of_bodyW mixed Tryz.func31 (of_decide_eq_true (by kernel_rfl)) (by rw [eq31]; exact h)
def an32 : Ann := (.seq .nil (.seq (.seq .nil (.cond (.seq .nil .nil) .nil)) (.seq .nil (.seq .nil .nil))))
def S32 (x0 : Option Addr) (K : Value → WP) : WP := 
 splitW (Option.isNone x0) (K (.int .i64 (1 : Int))) <|
 ptrW x0 fun (p1 : Addr) =>
 ldW .ptr (p1.add 7) fun (u2 : Option Addr) =>
 callW Tryz.prog 38 [(.pointer u2)] (.one (.one .ptr)) fun (u3 : Option Addr) =>
 ptrW x0 fun (p4 : Addr) =>
 stW (p4.add 8) (.pointer u3) <|
 ptrW x0 fun (p5 : Addr) =>
 stW (p5.add 9) (.pointer none) <| K (.int .i64 (0 : Int))
theorem eq32 (x0 : Option Addr) (K : Value → WP) : bodyW Tryz.prog Tryz.f32 an32 false [(.pointer x0)] K = S32 x0 K := by kernel_rfl
theorem calls32 (x0 : Option Addr) {K : Value → WP} {w : World} (h : S32 x0 K w) : Calls Tryz.prog 32 #[(.pointer x0)] w (Ret K) := callsR_of_bodyW mixed Tryz.func32 (of_decide_eq_true (by kernel_rfl)) (by rw [eq32]; exact h)
def an33 : Ann := (.seq .nil (.seq (.block (.seq .nil (.cond (.seq .nil (.seq .nil .nil)) (.seq .nil (.cond (.seq .nil (.seq .nil .nil)) .nil))))) (.seq .nil (.seq .nil .nil))))
def S33 (x0 : Option Addr) (x1 : Int) (K : Value → WP) : WP := 
 ptrW x0 fun (p1 : Addr) =>
 ldW .bool (p1.add 5) fun (u2 : Bool) =>
 splitW (!u2) (ptrW x0 fun (p3 : Addr) =>
 ldW .slc (p3.add 2) fun (u4 : (Option Addr × Nat × Nat)) =>
 callW Tryz.prog 30 [(.slice u4.1 u4.2.1 u4.2.2)] (.one (.one .slc)) fun (u5 : (Option Addr × Nat × Nat)) =>
 ptrW x0 fun (p6 : Addr) =>
 stW (p6.add 4) (.slice u5.1 u5.2.1 u5.2.2) <|
 ptrW x0 fun (p7 : Addr) =>
 stW (p7.add 5) (.bool true) <|
 ptrW x0 fun (p8 : Addr) =>
 ldW .ptr (p8.add 1) fun (u9 : Option Addr) =>
 callW Tryz.prog 64 [(.pointer u9)] (.one (.one (.int .i64))) fun (u10 : Int) => K (.int .i64 u10)) <|
 splitW ((Int.tmod x1 (2 : Int)) == (0 : Int)) (ptrW x0 fun (p11 : Addr) =>
 ldW .slc (p11.add 4) fun (u12 : (Option Addr × Nat × Nat)) =>
 callW Tryz.prog 30 [(.slice u12.1 u12.2.1 u12.2.2)] (.one (.one .slc)) fun (u13 : (Option Addr × Nat × Nat)) =>
 ptrW x0 fun (p14 : Addr) =>
 stW (p14.add 2) (.slice u13.1 u13.2.1 u13.2.2) <|
 ptrW x0 fun (p15 : Addr) =>
 stW (p15.add 5) (.bool false) <|
 ptrW x0 fun (p16 : Addr) =>
 ldW .ptr (p16.add 1) fun (u17 : Option Addr) =>
 callW Tryz.prog 65 [(.pointer u17)] (.one (.one (.int .i64))) fun (u18 : Int) => K (.int .i64 u18)) <|
 ptrW x0 fun (p19 : Addr) =>
 stW (p19.add 5) (.bool false) <|
 ptrW x0 fun (p20 : Addr) =>
 ldW .ptr (p20.add 1) fun (u21 : Option Addr) =>
 callW Tryz.prog 66 [(.pointer u21)] (.one (.one (.int .i64))) fun (u22 : Int) => K (.int .i64 u22)
theorem eq33 (x0 : Option Addr) (x1 : Int) (K : Value → WP) : bodyW Tryz.prog Tryz.f33 an33 false [(.pointer x0), (.int .i64 x1)] K = S33 x0 x1 K := by kernel_rfl
theorem calls33 (x0 : Option Addr) (x1 : Int) {K : Value → WP} {w : World} (h : S33 x0 x1 K w) : Calls Tryz.prog 33 #[(.pointer x0), (.int .i64 x1)] w (Ret K) := callsR_of_bodyW mixed Tryz.func33 (of_decide_eq_true (by kernel_rfl)) (by rw [eq33]; exact h)
def an34 : Ann := (.seq .nil (.seq .nil (.seq (.seq .nil (.block (.loop [(4, .sh (.one (.int .i64))), (14, .sh (.one (.int .i64)))] [5, 13, 1000000] (.seq .nil (.seq (.cond .nil .nil) (.seq (.block (.seq .nil (.seq .nil (.seq .nil (.cond .nil .nil))))) .nil)))))) (.seq (.seq .nil (.cond (.seq .nil .nil) .nil)) (.seq .nil .nil)))))
def S34 (x0 : ByteArray) (x1 : ByteArray) (K : Value → WP) : WP := 
 newW (.cells #[(.int .u64 (0 : Int)), (.int .i64 (0 : Int)), (.int .i64 (0 : Int)), (.int .u32 (0 : Int)), (.slice none 0 0)] 79) fun (r1 : Nat) =>
 loopW (Int × Int × Unit) ((-1 : Int), (0 : Int), ()) fun (y3 : Int × Int × Unit) (I2 : (Int × Int × Unit) → WP) =>
 splitW (decide (y3.2.1 < (2 : Int))) (guardW (0 ≤ y3.2.1 ∧ y3.2.1 < ((2 : Nat) : Int) ∧ 2 = (#[(.string x0), (.string x1)] : Array Value).size) <|
 callW Tryz.prog 67 [((#[(.string x0), (.string x1)] : Array Value).getD (Int.toNat y3.2.1) undef)] (.many [(.agg [(.int .u64), (.int .i64), (.int .i64), (.int .u32), .slc]), (.one (.int .i64))]) fun (u4 : (Int × Int × Int × Int × (Option Addr × Nat × Nat) × Unit) × Int × Unit) =>
 newW (.cells #[(.int .u64 (0 : Int)), (.int .i64 (0 : Int)), (.int .i64 (0 : Int)), (.int .u32 (0 : Int)), (.slice none 0 0)] 79) fun (r5 : Nat) =>
 guardW ((#[(.int .u64 u4.1.1), (.int .i64 u4.1.2.1), (.int .i64 u4.1.2.2.1), (.int .u32 u4.1.2.2.2.1), (.slice u4.1.2.2.2.2.1.1 u4.1.2.2.2.2.1.2.1 u4.1.2.2.2.2.1.2.2)] : Array Value).size = 5) <|
 stAW (⟨r5, 0, none⟩ : Addr) [(.int .u64 u4.1.1), (.int .i64 u4.1.2.1), (.int .i64 u4.1.2.2.1), (.int .u32 u4.1.2.2.2.1), (.slice u4.1.2.2.2.2.1.1 u4.1.2.2.2.2.1.2.1 u4.1.2.2.2.2.1.2.2)] <|
 splitW (u4.2.1 == (0 : Int)) (splitW (decide (y3.1 < (0 : Int))) (drewW <|
 ldAW [(.int .u64), (.int .i64), (.int .i64), (.int .u32), .slc] (⟨r5, 0, none⟩ : Addr) fun (u6 : (Int × Int × Int × Int × (Option Addr × Nat × Nat) × Unit)) =>
 guardW ((#[(.int .u64 u6.1), (.int .i64 u6.2.1), (.int .i64 u6.2.2.1), (.int .u32 u6.2.2.2.1), (.slice u6.2.2.2.2.1.1 u6.2.2.2.2.1.2.1 u6.2.2.2.2.1.2.2)] : Array Value).size = 5) <|
 stAW (⟨r1, 0, none⟩ : Addr) [(.int .u64 u6.1), (.int .i64 u6.2.1), (.int .i64 u6.2.2.1), (.int .u32 u6.2.2.2.1), (.slice u6.2.2.2.2.1.1 u6.2.2.2.2.1.2.1 u6.2.2.2.2.1.2.2)] <| I2 (y3.2.1, (IntKind.wrap .i64 (y3.2.1 + (1 : Int))), ())) <|
 ldW (.int .u64) (⟨r5, 0, none⟩ : Addr) fun (u7 : Int) =>
 ldW (.int .u64) (⟨r1, 0, none⟩ : Addr) fun (u8 : Int) =>
 splitW (decide (u7 > u8)) (drewW <|
 ldAW [(.int .u64), (.int .i64), (.int .i64), (.int .u32), .slc] (⟨r5, 0, none⟩ : Addr) fun (u9 : (Int × Int × Int × Int × (Option Addr × Nat × Nat) × Unit)) =>
 guardW ((#[(.int .u64 u9.1), (.int .i64 u9.2.1), (.int .i64 u9.2.2.1), (.int .u32 u9.2.2.2.1), (.slice u9.2.2.2.2.1.1 u9.2.2.2.2.1.2.1 u9.2.2.2.2.1.2.2)] : Array Value).size = 5) <|
 stAW (⟨r1, 0, none⟩ : Addr) [(.int .u64 u9.1), (.int .i64 u9.2.1), (.int .i64 u9.2.2.1), (.int .u32 u9.2.2.2.1), (.slice u9.2.2.2.2.1.1 u9.2.2.2.2.1.2.1 u9.2.2.2.2.1.2.2)] <| I2 (y3.2.1, (IntKind.wrap .i64 (y3.2.1 + (1 : Int))), ())) <| I2 (y3.1, (IntKind.wrap .i64 (y3.2.1 + (1 : Int))), ())) <| I2 (y3.1, (IntKind.wrap .i64 (y3.2.1 + (1 : Int))), ())) <|
 splitW (decide (y3.1 < (0 : Int))) (guardW ((#[(.int .u64 (0 : Int)), (.int .i64 (0 : Int)), (.int .i64 (0 : Int)), (.int .u32 (0 : Int)), (.slice none 0 0)] : Array Value).size = 5) <|
 stAW (⟨r1, 0, none⟩ : Addr) [(.int .u64 (0 : Int)), (.int .i64 (0 : Int)), (.int .i64 (0 : Int)), (.int .u32 (0 : Int)), (.slice none 0 0)] <|
 ldAW [(.int .u64), (.int .i64), (.int .i64), (.int .u32), .slc] (⟨r1, 0, none⟩ : Addr) fun (u10 : (Int × Int × Int × Int × (Option Addr × Nat × Nat) × Unit)) => K (.tuple #[(.int .i64 (-1 : Int)), (.agg #[(.int .u64 u10.1), (.int .i64 u10.2.1), (.int .i64 u10.2.2.1), (.int .u32 u10.2.2.2.1), (.slice u10.2.2.2.2.1.1 u10.2.2.2.2.1.2.1 u10.2.2.2.2.1.2.2)]), (.int .i64 (10 : Int))])) <|
 drewW <|
 ldAW [(.int .u64), (.int .i64), (.int .i64), (.int .u32), .slc] (⟨r1, 0, none⟩ : Addr) fun (u11 : (Int × Int × Int × Int × (Option Addr × Nat × Nat) × Unit)) =>
 guardW ((#[(.int .u64 u11.1), (.int .i64 u11.2.1), (.int .i64 u11.2.2.1), (.int .u32 u11.2.2.2.1), (.slice u11.2.2.2.2.1.1 u11.2.2.2.2.1.2.1 u11.2.2.2.2.1.2.2)] : Array Value).size = 5) <|
 stAW (⟨r1, 0, none⟩ : Addr) [(.int .u64 u11.1), (.int .i64 u11.2.1), (.int .i64 u11.2.2.1), (.int .u32 u11.2.2.2.1), (.slice u11.2.2.2.2.1.1 u11.2.2.2.2.1.2.1 u11.2.2.2.2.1.2.2)] <|
 ldAW [(.int .u64), (.int .i64), (.int .i64), (.int .u32), .slc] (⟨r1, 0, none⟩ : Addr) fun (u12 : (Int × Int × Int × Int × (Option Addr × Nat × Nat) × Unit)) => K (.tuple #[(.int .i64 y3.1), (.agg #[(.int .u64 u12.1), (.int .i64 u12.2.1), (.int .i64 u12.2.2.1), (.int .u32 u12.2.2.2.1), (.slice u12.2.2.2.2.1.1 u12.2.2.2.2.1.2.1 u12.2.2.2.2.1.2.2)]), (.int .i64 (0 : Int))])
theorem eq34 (x0 : ByteArray) (x1 : ByteArray) (K : Value → WP) : bodyW Tryz.prog Tryz.f34 an34 false [(.string x0), (.string x1)] K = S34 x0 x1 K := by kernel_rfl
theorem calls34 (x0 : ByteArray) (x1 : ByteArray) {K : Value → WP} {w : World} (h : S34 x0 x1 K w) : Calls Tryz.prog 34 #[(.string x0), (.string x1)] w (Ret K) := callsR_of_bodyW mixed Tryz.func34 (of_decide_eq_true (by kernel_rfl)) (by rw [eq34]; exact h)
def an35 : Ann := (.seq .nil (.seq (.seq .nil (.cond (.seq .nil .nil) .nil)) (.seq .nil .nil)))
def S35 (x0 : Option Addr) (K : Value → WP) : WP := 
 newW (.cells #[(.int .i64 (0 : Int)), (.int .i64 (0 : Int))] 23) fun (r1 : Nat) =>
 splitW (Option.isNone x0) (guardW ((#[(.int .i64 (0 : Int)), (.int .i64 (0 : Int))] : Array Value).size = 2) <|
 stAW (⟨r1, 0, none⟩ : Addr) [(.int .i64 (0 : Int)), (.int .i64 (0 : Int))] <|
 ldAW [(.int .i64), (.int .i64)] (⟨r1, 0, none⟩ : Addr) fun (u2 : (Int × Int × Unit)) => K (.agg #[(.int .i64 u2.1), (.int .i64 u2.2.1)])) <|
 ptrW x0 fun (p3 : Addr) =>
 ldAW [(.int .i64), (.int .i64)] p3 fun (u4 : (Int × Int × Unit)) =>
 guardW ((#[(.int .i64 u4.1), (.int .i64 u4.2.1)] : Array Value).size = 2) <|
 stAW (⟨r1, 0, none⟩ : Addr) [(.int .i64 u4.1), (.int .i64 u4.2.1)] <|
 ldAW [(.int .i64), (.int .i64)] (⟨r1, 0, none⟩ : Addr) fun (u5 : (Int × Int × Unit)) => K (.agg #[(.int .i64 u5.1), (.int .i64 u5.2.1)])
theorem eq35 (x0 : Option Addr) (K : Value → WP) : bodyW Tryz.prog Tryz.f35 an35 false [(.pointer x0)] K = S35 x0 K := by kernel_rfl
theorem calls35 (x0 : Option Addr) {K : Value → WP} {w : World} (h : S35 x0 K w) : Calls Tryz.prog 35 #[(.pointer x0)] w (Ret K) := callsR_of_bodyW mixed Tryz.func35 (of_decide_eq_true (by kernel_rfl)) (by rw [eq35]; exact h)
def an36 : Ann := (.seq .nil (.seq .nil (.seq (.seq .nil (.cond (.seq .nil .nil) .nil)) (.seq .nil .nil))))
def S36 (x0 : ByteArray) (x1 : Int) (K : Value → WP) : WP := 
 newW (.cells #[(.int .u8 (0 : Int)), (.int .u64 (0 : Int)), (.string ByteArray.empty)] 87) fun (r1 : Nat) =>
 callW Tryz.prog 68 [(.string x0)] (.many [(.agg [(.int .u8), (.int .u64), .str]), (.one (.int .i64))]) fun (u2 : (Int × Int × ByteArray × Unit) × Int × Unit) =>
 newW (.cells #[(.int .u8 (0 : Int)), (.int .u64 (0 : Int)), (.string ByteArray.empty)] 87) fun (r3 : Nat) =>
 guardW ((#[(.int .u8 u2.1.1), (.int .u64 u2.1.2.1), (.string u2.1.2.2.1)] : Array Value).size = 3) <|
 stAW (⟨r3, 0, none⟩ : Addr) [(.int .u8 u2.1.1), (.int .u64 u2.1.2.1), (.string u2.1.2.2.1)] <|
 splitW (u2.2.1 == (0 : Int)) (ldW (.int .u8) (⟨r3, 0, none⟩ : Addr) fun (u4 : Int) =>
 splitW (u4 != x1) (guardW ((#[(.int .u8 (0 : Int)), (.int .u64 (0 : Int)), (.string ByteArray.empty)] : Array Value).size = 3) <|
 stAW (⟨r1, 0, none⟩ : Addr) [(.int .u8 (0 : Int)), (.int .u64 (0 : Int)), (.string ByteArray.empty)] <|
 ldAW [(.int .u8), (.int .u64), .str] (⟨r1, 0, none⟩ : Addr) fun (u5 : (Int × Int × ByteArray × Unit)) => K (.tuple #[(.agg #[(.int .u8 u5.1), (.int .u64 u5.2.1), (.string u5.2.2.1)]), (.int .i64 (11 : Int))])) <|
 ldAW [(.int .u8), (.int .u64), .str] (⟨r3, 0, none⟩ : Addr) fun (u6 : (Int × Int × ByteArray × Unit)) =>
 guardW ((#[(.int .u8 u6.1), (.int .u64 u6.2.1), (.string u6.2.2.1)] : Array Value).size = 3) <|
 stAW (⟨r1, 0, none⟩ : Addr) [(.int .u8 u6.1), (.int .u64 u6.2.1), (.string u6.2.2.1)] <|
 ldAW [(.int .u8), (.int .u64), .str] (⟨r1, 0, none⟩ : Addr) fun (u7 : (Int × Int × ByteArray × Unit)) => K (.tuple #[(.agg #[(.int .u8 u7.1), (.int .u64 u7.2.1), (.string u7.2.2.1)]), (.int .i64 u2.2.1)])) <|
 ldAW [(.int .u8), (.int .u64), .str] (⟨r3, 0, none⟩ : Addr) fun (u8 : (Int × Int × ByteArray × Unit)) =>
 guardW ((#[(.int .u8 u8.1), (.int .u64 u8.2.1), (.string u8.2.2.1)] : Array Value).size = 3) <|
 stAW (⟨r1, 0, none⟩ : Addr) [(.int .u8 u8.1), (.int .u64 u8.2.1), (.string u8.2.2.1)] <|
 ldAW [(.int .u8), (.int .u64), .str] (⟨r1, 0, none⟩ : Addr) fun (u9 : (Int × Int × ByteArray × Unit)) => K (.tuple #[(.agg #[(.int .u8 u9.1), (.int .u64 u9.2.1), (.string u9.2.2.1)]), (.int .i64 u2.2.1)])
theorem eq36 (x0 : ByteArray) (x1 : Int) (K : Value → WP) : bodyW Tryz.prog Tryz.f36 an36 false [(.string x0), (.int .u8 x1)] K = S36 x0 x1 K := by kernel_rfl
theorem calls36 (x0 : ByteArray) (x1 : Int) {K : Value → WP} {w : World} (h : S36 x0 x1 K w) : Calls Tryz.prog 36 #[(.string x0), (.int .u8 x1)] w (Ret K) := callsR_of_bodyW mixed Tryz.func36 (of_decide_eq_true (by kernel_rfl)) (by rw [eq36]; exact h)
def an37 : Ann := (.seq .nil (.seq .nil (.seq (.seq .nil (.cond (.seq .nil .nil) .nil)) (.seq .nil (.seq (.seq .nil (.cond (.seq .nil .nil) .nil)) (.seq .nil (.seq (.seq .nil (.block (.loop [(36, .sh (.one (.int .i64))), (1000000, .ds)] [4, 5, 6, 9, 34, 35] (.seq .nil (.seq (.cond .nil .nil) (.seq (.block (.seq .nil (.seq .nil (.block (.loop [(43, .sh (.one .slc))] [] (.seq .nil (.block (.seq .nil .nil)))))))) .nil)))))) (.seq (.seq .nil (.cond (.seq .nil .nil) .nil)) (.seq .nil .nil)))))))))
def S37 (x0_0 : Int) (x0_1 : Int) (a1 : Option Addr) (n1 c1 : Nat) (K : Value → WP) : WP := 
 newW (.cells #[(.int .i64 x0_0), (.int .i64 x0_1)] 23) fun (r1 : Nat) =>
 ldAW [(.int .i64), (.int .i64)] (⟨r1, 0, none⟩ : Addr) fun (u2 : (Int × Int × Unit)) =>
 callW Tryz.prog 69 [(.agg #[(.int .i64 u2.1), (.int .i64 u2.2.1)])] (.many [(.one .ptr), (.one (.int .i64))]) fun (u3 : Option Addr × Int × Unit) =>
 newW (.cells #[(.pointer none)] 80) fun (r4 : Nat) =>
 stW (⟨r4, 0, none⟩ : Addr) (.pointer u3.1) <|
 splitW (u3.2.1 != (0 : Int)) (leaveW Tryz.prog [] <| K (.tuple #[(.pointer none), (.int .i64 u3.2.1)])) <|
 ldAW [(.int .i64), (.int .i64)] (⟨r1, 0, none⟩ : Addr) fun (u5 : (Int × Int × Unit)) =>
 callW Tryz.prog 71 [(.agg #[(.int .i64 u5.1), (.int .i64 u5.2.1)])] (.one (.one (.int .i64))) fun (u6 : Int) =>
 splitW (((n1 : Nat) : Int) != u6) (leaveW Tryz.prog [] <| K (.tuple #[(.pointer none), (.int .i64 (4 : Int))])) <|
 ldW .ptr (⟨r4, 0, none⟩ : Addr) fun (u7 : Option Addr) =>
 callW Tryz.prog 73 [(.pointer u7)] (.one (.one .slc)) fun (u8 : (Option Addr × Nat × Nat)) =>
 callW Tryz.prog 72 [(.slice a1 n1 c1), (.slice u8.1 u8.2.1 u8.2.2), (.func (.func 70) #[] #[])] (.one (.one .bool)) fun (u9 : Bool) =>
 splitW (!u9) (leaveW Tryz.prog [] <| K (.tuple #[(.pointer none), (.int .i64 (4 : Int))])) <|
 newW (.cells #[(.int .i64 (0 : Int))] 3) fun (r10 : Nat) =>
 stW (⟨r10, 0, none⟩ : Addr) (.int .i64 (0 : Int)) <|
 loopW (Int × List Deferred × Unit) ((0 : Int), [], ()) fun (y12 : Int × List Deferred × Unit) (I11 : (Int × List Deferred × Unit) → WP) =>
 splitW (decide (y12.1 < ((n1 : Nat) : Int))) (guardW (0 ≤ y12.1 ∧ y12.1 < ((n1 : Nat) : Int)) <|
 ptrW a1 fun (p13 : Addr) =>
 ldW .str (p13.add (Int.toNat y12.1 * 1)) fun (u14 : ByteArray) =>
 runW Tryz.prog (Go.convert 9 93 (.string u14)) .slc fun (u15 : (Option Addr × Nat × Nat)) =>
 callW Tryz.prog 74 [(.slice u15.1 u15.2.1 u15.2.2), (.int .i64 (2 : Int))] (.one (.one .any)) fun (u16 : Value) =>
 rangeW Tryz.prog u16 ((Option Addr × Nat × Nat) × Unit) (fun (t17 : (Option Addr × Nat × Nat) × Unit) => [(.slice t17.1.1 t17.1.2.1 t17.1.2.2)]) (fun (t17 : (Option Addr × Nat × Nat) × Unit) (B18 : WP → WP) (N19 : WP) (Q20 : Code → WP) => B18 (drewW <|
 ldW .ptr (⟨r4, 0, none⟩ : Addr) fun (u23 : Option Addr) =>
 ptrW u23 fun (p24 : Addr) =>
 ldW .slc (p24.add 2) fun (u25 : (Option Addr × Nat × Nat)) =>
 ldW (.int .i64) (⟨r10, 0, none⟩ : Addr) fun (u26 : Int) =>
 callW Tryz.prog 75 [(.slice t17.1.1 t17.1.2.1 t17.1.2.2)] (.one (.one (.int .u64))) fun (u27 : Int) =>
 heldW [[((⟨r10, 0, none⟩ : Addr), (.int .i64 u26))], [((p24.add 2), (.slice u25.1 u25.2.1 u25.2.2))], [((⟨r4, 0, none⟩ : Addr), (.pointer u23))]] <|
 guardW (0 ≤ u26 ∧ u26 < ((u25.2.1 : Nat) : Int)) <|
 ptrW u25.1 fun (p28 : Addr) =>
 stW (p28.add (Int.toNat u26 * 1)) (.int .u16 (IntKind.wrap .u16 u27)) <|
 ldW (.int .i64) (⟨r10, 0, none⟩ : Addr) fun (u29 : Int) =>
 stW (⟨r10, 0, none⟩ : Addr) (.int .i64 (IntKind.wrap .i64 (u29 + (1 : Int)))) <| N19)) fun (r21 : Nat) (p22 : Option Code) =>
 jumpK (I11 ((IntKind.wrap .i64 (y12.1 + (1 : Int))), (⟨.collected r21, #[]⟩ :: y12.2.1), ())) (leaveW Tryz.prog (⟨.collected r21, #[]⟩ :: y12.2.1) <| K (.tuple #[(.pointer none), (.int .i64 (0 : Int))])) [] p22) <|
 ldW .ptr (⟨r4, 0, none⟩ : Addr) fun (u30 : Option Addr) =>
 ptrW u30 fun (p31 : Addr) =>
 ldW .slc (p31.add 2) fun (u32 : (Option Addr × Nat × Nat)) =>
 guardW (0 ≤ (0 : Int) ∧ (0 : Int) < ((u32.2.1 : Nat) : Int)) <|
 ptrW u32.1 fun (p33 : Addr) =>
 ldW (.int .u16) (p33.add (Int.toNat (0 : Int) * 1)) fun (u34 : Int) =>
 splitW (u34 != (1 : Int)) (leaveW Tryz.prog y12.2.1 <| K (.tuple #[(.pointer none), (.int .i64 (4 : Int))])) <|
 ldW .ptr (⟨r4, 0, none⟩ : Addr) fun (u35 : Option Addr) =>
 ptrW u35 fun (p36 : Addr) =>
 ldW .slc (p36.add 2) fun (u37 : (Option Addr × Nat × Nat)) =>
 guardW (0 ≤ (1 : Int) ∧ (1 : Int) < ((u37.2.1 : Nat) : Int)) <|
 ptrW u37.1 fun (p38 : Addr) =>
 ldW (.int .u16) (p38.add (Int.toNat (1 : Int) * 1)) fun (u39 : Int) =>
 splitW (u39 != (1 : Int)) (leaveW Tryz.prog y12.2.1 <| K (.tuple #[(.pointer none), (.int .i64 (4 : Int))])) <|
 ldW .ptr (⟨r4, 0, none⟩ : Addr) fun (u40 : Option Addr) =>
 leaveW Tryz.prog y12.2.1 <| K (.tuple #[(.pointer u40), (.int .i64 (0 : Int))])
theorem eq37 (x0_0 : Int) (x0_1 : Int) (a1 : Option Addr) (n1 c1 : Nat) (K : Value → WP) : bodyW Tryz.prog Tryz.f37 an37 true [(.agg #[(.int .i64 x0_0), (.int .i64 x0_1)]), (.slice a1 n1 c1)] K = S37 x0_0 x0_1 a1 n1 c1 K := by kernel_rfl
theorem calls37 (x0_0 : Int) (x0_1 : Int) (a1 : Option Addr) (n1 c1 : Nat) {K : Value → WP} {w : World} (h : S37 x0_0 x0_1 a1 n1 c1 K w) : Calls Tryz.prog 37 #[(.agg #[(.int .i64 x0_0), (.int .i64 x0_1)]), (.slice a1 n1 c1)] w (Ret K) := callsR_of_bodyW mixed Tryz.func37 (of_decide_eq_true (by kernel_rfl)) (by rw [eq37]; exact h)
def an38 : Ann := (.seq .nil (.seq (.seq .nil (.cond (.seq .nil .nil) .nil)) (.seq .nil .nil)))
def S38 (x0 : Option Addr) (K : Value → WP) : WP := 
 splitW (Option.isNone x0) (K (.pointer none)) <|
 drewW <|
 ptrW x0 fun (p1 : Addr) =>
 ldAW [(.int .i64), (.int .i64)] p1 fun (u2 : (Int × Int × Unit)) =>
 ptrW x0 fun (p3 : Addr) =>
 ldW .slc (p3.add 2) fun (u4 : (Option Addr × Nat × Nat)) =>
 callW Tryz.prog 76 [(.slice u4.1 u4.2.1 u4.2.2)] (.one (.one .slc)) fun (u5 : (Option Addr × Nat × Nat)) =>
 heldW [[(p1.add 0, (.int .i64 u2.1)), (p1.add 1, (.int .i64 u2.2.1))]] <|
 newW (.cells #[(.int .i64 u2.1), (.int .i64 u2.2.1), (.slice u5.1 u5.2.1 u5.2.2)] 142) fun (r6 : Nat) => K (.pointer (some (⟨r6, 0, none⟩ : Addr)))
theorem eq38 (x0 : Option Addr) (K : Value → WP) : bodyW Tryz.prog Tryz.f38 an38 false [(.pointer x0)] K = S38 x0 K := by kernel_rfl
theorem calls38 (x0 : Option Addr) {K : Value → WP} {w : World} (h : S38 x0 K w) : Calls Tryz.prog 38 #[(.pointer x0)] w (Ret K) := callsR_of_bodyW mixed Tryz.func38 (of_decide_eq_true (by kernel_rfl)) (by rw [eq38]; exact h)
def an39 : Ann := (.seq .nil (.seq .nil .nil))
def S39 (x0 : Option Addr) (x1 : Int) (K : Value → WP) : WP := 
 splitW (decide (x1 ≥ (0 : Int))) (ptrW x0 fun (p1 : Addr) =>
 ldW (.int .i64) (p1.add 1) fun (u2 : Int) => K (.bool (decide (x1 < u2)))) <| K (.bool false)
theorem eq39 (x0 : Option Addr) (x1 : Int) (K : Value → WP) : bodyW Tryz.prog Tryz.f39 an39 false [(.pointer x0), (.int .i64 x1)] K = S39 x0 x1 K := by kernel_rfl
theorem calls39 (x0 : Option Addr) (x1 : Int) {K : Value → WP} {w : World} (h : S39 x0 x1 K w) : Calls Tryz.prog 39 #[(.pointer x0), (.int .i64 x1)] w (Ret K) := callsR_of_bodyW mixed Tryz.func39 (of_decide_eq_true (by kernel_rfl)) (by rw [eq39]; exact h)
def an40 : Ann := (.seq .nil (.seq .nil .nil))
def S40 (x0 : Option Addr) (K : Value → WP) : WP := 
 ptrW x0 fun (p1 : Addr) =>
 ldW .slc (p1.add 3) fun (u2 : (Option Addr × Nat × Nat)) =>
 callW Tryz.prog 77 [(.slice u2.1 u2.2.1 u2.2.2)] (.one (.one .any)) fun (u3 : Value) => K u3
theorem eq40 (x0 : Option Addr) (K : Value → WP) : bodyW Tryz.prog Tryz.f40 an40 false [(.pointer x0)] K = S40 x0 K := by kernel_rfl
theorem calls40 (x0 : Option Addr) {K : Value → WP} {w : World} (h : S40 x0 K w) : Calls Tryz.prog 40 #[(.pointer x0)] w (Ret K) := callsR_of_bodyW mixed Tryz.func40 (of_decide_eq_true (by kernel_rfl)) (by rw [eq40]; exact h)
def an41 : Ann := (.seq .nil (.seq .nil .nil))
def S41 (x0 : Option Addr) (x1 : Int) (K : Value → WP) : WP := 
 splitW (decide (x1 ≥ (2 : Int))) (ptrW x0 fun (p1 : Addr) =>
 ldW (.int .i64) (((p1.add 1).add 1).add 1) fun (u2 : Int) =>
 splitW (decide ((IntKind.wrap .u64 x1) < (IntKind.wrap .u64 u2))) (ptrW x0 fun (p3 : Addr) =>
 ldW .slc ((p3.add 1).add 4) fun (u4 : (Option Addr × Nat × Nat)) =>
 callW Tryz.prog 78 [(.slice u4.1 u4.2.1 u4.2.2), (.int .u32 x1)] (.one (.one .bool)) fun (u5 : Bool) => K (.bool (!u5))) <| K (.bool false)) <| K (.bool false)
theorem eq41 (x0 : Option Addr) (x1 : Int) (K : Value → WP) : bodyW Tryz.prog Tryz.f41 an41 false [(.pointer x0), (.int .u32 x1)] K = S41 x0 x1 K := by kernel_rfl
theorem calls41 (x0 : Option Addr) (x1 : Int) {K : Value → WP} {w : World} (h : S41 x0 x1 K w) : Calls Tryz.prog 41 #[(.pointer x0), (.int .u32 x1)] w (Ret K) := callsR_of_bodyW mixed Tryz.func41 (of_decide_eq_true (by kernel_rfl)) (by rw [eq41]; exact h)
def an42 : Ann := (.seq .nil (.seq (.seq .nil (.cond (.seq .nil .nil) .nil)) (.seq .nil .nil)))
def S42 (x0 : Option Addr) (x1 : Int) (K : Value → WP) : WP := 
 splitW (Option.isNone x0) (K (.int .i64 (0 : Int))) <|
 ptrW x0 fun (p1 : Addr) =>
 ldW .slc (p1.add 2) fun (u2 : (Option Addr × Nat × Nat)) =>
 splitW (decide ((IntKind.wrap .u64 x1) ≥ (IntKind.wrap .u64 ((u2.2.1 : Nat) : Int)))) (K (.int .i64 (0 : Int))) <|
 ptrW x0 fun (p3 : Addr) =>
 ldW .slc (p3.add 2) fun (u4 : (Option Addr × Nat × Nat)) =>
 guardW (0 ≤ x1 ∧ x1 < ((u4.2.1 : Nat) : Int)) <|
 ptrW u4.1 fun (p5 : Addr) =>
 ldW (.int .u16) (p5.add (Int.toNat x1 * 1)) fun (u6 : Int) => K (.int .i64 (IntKind.wrap .i64 u6))
theorem eq42 (x0 : Option Addr) (x1 : Int) (K : Value → WP) : bodyW Tryz.prog Tryz.f42 an42 false [(.pointer x0), (.int .u32 x1)] K = S42 x0 x1 K := by kernel_rfl
theorem calls42 (x0 : Option Addr) (x1 : Int) {K : Value → WP} {w : World} (h : S42 x0 x1 K w) : Calls Tryz.prog 42 #[(.pointer x0), (.int .u32 x1)] w (Ret K) := callsR_of_bodyW mixed Tryz.func42 (of_decide_eq_true (by kernel_rfl)) (by rw [eq42]; exact h)
def an43 : Ann := (.seq .nil (.seq .nil (.seq .nil (.block (.loop [] [1, 4, 1000000] (.block (.seq .nil (.seq (.seq .nil (.cond (.seq .nil .nil) .nil)) .nil))))))))
def S43 (x0 : Option Addr) (K : Value → WP) : WP := 
 newW (.cells #[(.pointer x0)] 39) fun (r1 : Nat) =>
 newW (.cells #[(.slice none 0 0)] 40) fun (r2 : Nat) =>
 loopW (Unit) () fun (y4 : Unit) (I3 : (Unit) → WP) =>
 drewW <|
 ldW .ptr (⟨r1, 0, none⟩ : Addr) fun (u5 : Option Addr) =>
 ptrW u5 fun (p6 : Addr) =>
 ldW .ptr (p6.add 8) fun (u7 : Option Addr) =>
 ldW .ptr (⟨r1, 0, none⟩ : Addr) fun (u8 : Option Addr) =>
 ptrW u8 fun (p9 : Addr) =>
 ldW .ptr (p9.add 7) fun (u10 : Option Addr) =>
 callW Tryz.prog 80 [(.pointer u7), (.pointer u10)] (.many [(.one (.int .u32)), (.one (.int .i64))]) fun (u11 : Int × Int × Unit) =>
 splitW (u11.2.1 != (0 : Int)) (leaveW Tryz.prog (⟨.fn (.func 79) #[(.pointer (some (⟨r2, 0, none⟩ : Addr))), (.pointer (some (⟨r1, 0, none⟩ : Addr)))], #[]⟩ :: []) <| K (.tuple #[(.int .u32 u11.1), (.int .i64 u11.2.1)])) <|
 ldW .ptr (⟨r1, 0, none⟩ : Addr) fun (u12 : Option Addr) =>
 ptrW u12 fun (p13 : Addr) =>
 ldW .ptr (p13.add 9) fun (u14 : Option Addr) =>
 callW Tryz.prog 42 [(.pointer u14), (.int .u32 u11.1)] (.one (.one (.int .i64))) fun (u15 : Int) =>
 splitW (u15 == (0 : Int)) (leaveW Tryz.prog (⟨.fn (.func 79) #[(.pointer (some (⟨r2, 0, none⟩ : Addr))), (.pointer (some (⟨r1, 0, none⟩ : Addr)))], #[]⟩ :: []) <| K (.tuple #[(.int .u32 u11.1), (.int .i64 u11.2.1)])) <|
 ldW .slc (⟨r2, 0, none⟩ : Addr) fun (u16 : (Option Addr × Nat × Nat)) =>
 newW (.cells #[(.int .u32 u11.1)] 31) fun (r17 : Nat) =>
 runW Tryz.prog (Builtin.append_ #[40, 40] 40 #[(.slice u16.1 u16.2.1 u16.2.2), (.slice (some (⟨r17, 0, none⟩ : Addr)) 1 1)]) .slc fun (u18 : (Option Addr × Nat × Nat)) =>
 stW (⟨r2, 0, none⟩ : Addr) (.slice u18.1 u18.2.1 u18.2.2) <| I3 ()
theorem eq43 (x0 : Option Addr) (K : Value → WP) : bodyW Tryz.prog Tryz.f43 an43 true [(.pointer x0)] K = S43 x0 K := by kernel_rfl
theorem calls43 (x0 : Option Addr) {K : Value → WP} {w : World} (h : S43 x0 K w) : Calls Tryz.prog 43 #[(.pointer x0)] w (Ret K) := callsR_of_bodyW mixed Tryz.func43 (of_decide_eq_true (by kernel_rfl)) (by rw [eq43]; exact h)
def an44 : Ann := (.seq .nil (.seq .nil (.seq (.seq .nil (.cond (.seq .nil .nil) .nil)) (.seq .nil (.seq .nil .nil)))))
def S44 (x0 : Option Addr) (x1 : Int) (K : Value → WP) : WP := 
 callW Tryz.prog 81 [(.pointer x0), (.int .u32 x1)] (.many [(.one .ptr), (.one (.int .i64))]) fun (u1 : Option Addr × Int × Unit) =>
 splitW (u1.2.1 != (0 : Int)) (K (.tuple #[(.int .i64 (0 : Int)), (.int .i64 u1.2.1)])) <|
 ptrW u1.1 fun (p2 : Addr) =>
 ldW (.int .u16) p2 fun (u3 : Int) =>
 ptrW u1.1 fun (p4 : Addr) =>
 stW p4 (.int .u16 (IntKind.wrap .u16 (u3 - (1 : Int)))) <|
 ptrW u1.1 fun (p5 : Addr) =>
 ldW (.int .u16) p5 fun (u6 : Int) => K (.tuple #[(.int .i64 (IntKind.wrap .i64 u6)), (.int .i64 (0 : Int))])
theorem eq44 (x0 : Option Addr) (x1 : Int) (K : Value → WP) : bodyW Tryz.prog Tryz.f44 an44 false [(.pointer x0), (.int .u32 x1)] K = S44 x0 x1 K := by kernel_rfl
theorem calls44 (x0 : Option Addr) (x1 : Int) {K : Value → WP} {w : World} (h : S44 x0 x1 K w) : Calls Tryz.prog 44 #[(.pointer x0), (.int .u32 x1)] w (Ret K) := callsR_of_bodyW mixed Tryz.func44 (of_decide_eq_true (by kernel_rfl)) (by rw [eq44]; exact h)
def an45 : Ann := (.seq .nil (.seq (.seq .nil (.cond (.seq .nil .nil) .nil)) (.seq .nil .nil)))
def S45 (x0 : Int) (K : Value → WP) : WP := 
 splitW (x0 == (0 : Int)) (K (.int .i64 (1 : Int))) <| K (.int .i64 (0 : Int))
theorem eq45 (x0 : Int) (K : Value → WP) : bodyW Tryz.prog Tryz.f45 an45 false [(.int .i64 x0)] K = S45 x0 K := by kernel_rfl
theorem calls45 (x0 : Int) {K : Value → WP} {w : World} (h : S45 x0 K w) : Calls Tryz.prog 45 #[(.int .i64 x0)] w (Ret K) := callsR_of_bodyW mixed Tryz.func45 (of_decide_eq_true (by kernel_rfl)) (by rw [eq45]; exact h)
def an46 : Ann := (.seq .nil (.seq (.seq .nil (.block (.loop [(19, .sh (.one (.int .i64)))] [0, 3, 6, 17, 18, 1000000] (.seq .nil (.seq (.cond .nil .nil) (.seq (.block (.seq .nil (.seq .nil (.seq .nil (.cond (.seq .nil .nil) .nil))))) .nil)))))) (.seq (.seq .nil (.seq .nil (.cond (.seq .nil .nil) .nil))) (.seq .nil (.seq (.seq .nil (.cond (.seq .nil .nil) .nil)) (.seq (.seq .nil (.seq .nil (.cond (.seq .nil .nil) .nil))) (.seq .nil .nil)))))))
def S46 (x0 : Option Addr) (x1 : Option Addr) (x2_0 : Int) (x2_1 : Int) (x2_2 : Int) (x2_3 : Int) (a2_4 : Option Addr) (n2_4 c2_4 : Nat) (x3 : Int) (K : Value → WP) : WP := 
 newW (.cells #[(.int .u64 x2_0), (.int .i64 x2_1), (.int .i64 x2_2), (.int .u32 x2_3), (.slice a2_4 n2_4 c2_4)] 79) fun (r1 : Nat) =>
 callW Tryz.prog 73 [(.pointer x1)] (.one (.one .slc)) fun (u2 : (Option Addr × Nat × Nat)) =>
 loopW (Int × Unit) ((0 : Int), ()) fun (y4 : Int × Unit) (I3 : (Int × Unit) → WP) =>
 splitW (decide (y4.1 < ((u2.2.1 : Nat) : Int))) (guardW (0 ≤ y4.1 ∧ y4.1 < ((u2.2.1 : Nat) : Int)) <|
 ptrW u2.1 fun (p5 : Addr) =>
 ldW .str (p5.add (Int.toNat y4.1 * 1)) fun (u6 : ByteArray) =>
 drewW <|
 ldW .slc ((⟨r1, 0, none⟩ : Addr).add 4) fun (u7 : (Option Addr × Nat × Nat)) =>
 guardW (0 ≤ y4.1 ∧ y4.1 < ((u7.2.1 : Nat) : Int)) <|
 ptrW u7.1 fun (p8 : Addr) =>
 ldW (.int .u32) (p8.add (Int.toNat y4.1 * 1)) fun (u9 : Int) =>
 ldW (.int .u64) (⟨r1, 0, none⟩ : Addr) fun (u10 : Int) =>
 callW Tryz.prog 59 [(.pointer x0), (.int .u32 u9), (.agg #[(.int .u8 (2 : Int)), (.int .u64 u10), (.string u6)])] (.one (.one (.int .i64))) fun (u11 : Int) =>
 splitW (u11 != (0 : Int)) (K (.int .i64 u11)) <| I3 ((IntKind.wrap .i64 (y4.1 + (1 : Int))), ())) <|
 callW Tryz.prog 82 [(.pointer x0)] (.one (.one (.int .i64))) fun (u12 : Int) =>
 splitW (u12 != (0 : Int)) (K (.int .i64 u12)) <|
 ldAW [(.int .u64), (.int .i64), (.int .i64), (.int .u32), .slc] (⟨r1, 0, none⟩ : Addr) fun (u13 : (Int × Int × Int × Int × (Option Addr × Nat × Nat) × Unit)) =>
 callW Tryz.prog 83 [(.agg #[(.int .u64 u13.1), (.int .i64 u13.2.1), (.int .i64 u13.2.2.1), (.int .u32 u13.2.2.2.1), (.slice u13.2.2.2.2.1.1 u13.2.2.2.2.1.2.1 u13.2.2.2.2.1.2.2)])] (.many [(.one .str), (.one (.int .i64))]) fun (u14 : ByteArray × Int × Unit) =>
 splitW (u14.2.1 != (0 : Int)) (K (.int .i64 u14.2.1)) <|
 callW Tryz.prog 84 [(.pointer x0), (.int .i64 x3), (.string u14.1)] (.one (.one (.int .i64))) fun (u15 : Int) =>
 splitW (u15 != (0 : Int)) (K (.int .i64 u15)) <|
 callW Tryz.prog 82 [(.pointer x0)] (.one (.one (.int .i64))) fun (u16 : Int) => K (.int .i64 u16)
theorem eq46 (x0 : Option Addr) (x1 : Option Addr) (x2_0 : Int) (x2_1 : Int) (x2_2 : Int) (x2_3 : Int) (a2_4 : Option Addr) (n2_4 c2_4 : Nat) (x3 : Int) (K : Value → WP) : bodyW Tryz.prog Tryz.f46 an46 false [(.pointer x0), (.pointer x1), (.agg #[(.int .u64 x2_0), (.int .i64 x2_1), (.int .i64 x2_2), (.int .u32 x2_3), (.slice a2_4 n2_4 c2_4)]), (.int .i64 x3)] K = S46 x0 x1 x2_0 x2_1 x2_2 x2_3 a2_4 n2_4 c2_4 x3 K := by kernel_rfl
theorem calls46 (x0 : Option Addr) (x1 : Option Addr) (x2_0 : Int) (x2_1 : Int) (x2_2 : Int) (x2_3 : Int) (a2_4 : Option Addr) (n2_4 c2_4 : Nat) (x3 : Int) {K : Value → WP} {w : World} (h : S46 x0 x1 x2_0 x2_1 x2_2 x2_3 a2_4 n2_4 c2_4 x3 K w) : Calls Tryz.prog 46 #[(.pointer x0), (.pointer x1), (.agg #[(.int .u64 x2_0), (.int .i64 x2_1), (.int .i64 x2_2), (.int .u32 x2_3), (.slice a2_4 n2_4 c2_4)]), (.int .i64 x3)] w (Ret K) := callsR_of_bodyW mixed Tryz.func46 (of_decide_eq_true (by kernel_rfl)) (by rw [eq46]; exact h)
def an47 : Ann := (.seq .nil (.seq (.seq .nil (.cond (.seq .nil .nil) .nil)) (.seq .nil .nil)))
def S47 (a0 : Option Addr) (n0 c0 : Nat) (K : Value → WP) : WP := 
 splitW (Option.isNone a0) (K (.slice none 0 0)) <|
 newW (.cells #[] 99) fun (r1 : Nat) =>
 runW Tryz.prog (Builtin.append_ #[52, 52] 52 #[(.slice (some (⟨r1, 0, none⟩ : Addr)) 0 0), (.slice a0 n0 c0)]) .slc fun (u2 : (Option Addr × Nat × Nat)) => K (.slice u2.1 u2.2.1 u2.2.2)
theorem eq47 (a0 : Option Addr) (n0 c0 : Nat) (K : Value → WP) : bodyW Tryz.prog Tryz.f47 an47 false [(.slice a0 n0 c0)] K = S47 a0 n0 c0 K := by kernel_rfl
theorem calls47 (a0 : Option Addr) (n0 c0 : Nat) {K : Value → WP} {w : World} (h : S47 a0 n0 c0 K w) : Calls Tryz.prog 47 #[(.slice a0 n0 c0)] w (Ret K) := callsR_of_bodyW mixed Tryz.func47 (of_decide_eq_true (by kernel_rfl)) (by rw [eq47]; exact h)
def an48 : Ann := (.seq .nil (.seq (.seq .nil (.cond (.seq .nil .nil) .nil)) (.seq .nil .nil)))
def S48 (a0 : Option Addr) (n0 c0 : Nat) (K : Value → WP) : WP := 
 splitW (Option.isNone a0) (K (.slice none 0 0)) <|
 newW (.cells #[] 9) fun (r1 : Nat) =>
 runW Tryz.prog (Builtin.append_ #[85, 85] 85 #[(.slice (some (⟨r1, 0, none⟩ : Addr)) 0 0), (.slice a0 n0 c0)]) .slc fun (u2 : (Option Addr × Nat × Nat)) => K (.slice u2.1 u2.2.1 u2.2.2)
theorem eq48 (a0 : Option Addr) (n0 c0 : Nat) (K : Value → WP) : bodyW Tryz.prog Tryz.f48 an48 false [(.slice a0 n0 c0)] K = S48 a0 n0 c0 K := by kernel_rfl
theorem calls48 (a0 : Option Addr) (n0 c0 : Nat) {K : Value → WP} {w : World} (h : S48 a0 n0 c0 K w) : Calls Tryz.prog 48 #[(.slice a0 n0 c0)] w (Ret K) := callsR_of_bodyW mixed Tryz.func48 (of_decide_eq_true (by kernel_rfl)) (by rw [eq48]; exact h)
def an49 : Ann := (.seq .nil (.seq .nil .nil))
def S49 (x0 : Int) (K : Value → WP) : WP := 
 newW (.cells #[(.int .u64 x0)] 37) fun (r1 : Nat) => K (.func (.func 85) #[] #[(.pointer (some (⟨r1, 0, none⟩ : Addr)))])
theorem eq49 (x0 : Int) (K : Value → WP) : bodyW Tryz.prog Tryz.f49 an49 false [(.int .u64 x0)] K = S49 x0 K := by kernel_rfl
theorem calls49 (x0 : Int) {K : Value → WP} {w : World} (h : S49 x0 K w) : Calls Tryz.prog 49 #[(.int .u64 x0)] w (Ret K) := callsR_of_bodyW mixed Tryz.func49 (of_decide_eq_true (by kernel_rfl)) (by rw [eq49]; exact h)
def an50 : Ann := (.seq .nil (.seq .nil (.seq (.seq .nil (.cond (.seq .nil .nil) .nil)) (.seq (.seq .nil (.cond (.seq .nil .nil) .nil)) (.seq .nil (.seq .nil (.seq (.seq .nil (.block (.loop [(8, .sh (.one (.int .i64)))] [0, 2, 6, 7, 1000000] (.seq (.seq .nil (.cond .nil .nil)) (.seq (.block .nil) .nil))))) (.seq .nil (.seq (.seq .nil (.cond (.seq .nil .nil) .nil)) (.seq .nil .nil))))))))))
def S50 (x0 : ByteArray) (K : Value → WP) : WP := 
 newW (.cells #[(.int .u64 (0 : Int)), (.int .i64 (0 : Int)), (.int .i64 (0 : Int)), (.int .u32 (0 : Int)), (.slice none 0 0)] 79) fun (r1 : Nat) =>
 callW Tryz.prog 87 [(.string x0), (.int .u8 (1 : Int))] (.many [(.agg [(.int .u8), (.int .u64), .str]), (.one (.int .i64))]) fun (u2 : (Int × Int × ByteArray × Unit) × Int × Unit) =>
 newW (.cells #[(.int .u8 (0 : Int)), (.int .u64 (0 : Int)), (.string ByteArray.empty)] 87) fun (r3 : Nat) =>
 guardW ((#[(.int .u8 u2.1.1), (.int .u64 u2.1.2.1), (.string u2.1.2.2.1)] : Array Value).size = 3) <|
 stAW (⟨r3, 0, none⟩ : Addr) [(.int .u8 u2.1.1), (.int .u64 u2.1.2.1), (.string u2.1.2.2.1)] <|
 splitW (u2.2.1 != (0 : Int)) (guardW ((#[(.int .u64 (0 : Int)), (.int .i64 (0 : Int)), (.int .i64 (0 : Int)), (.int .u32 (0 : Int)), (.slice none 0 0)] : Array Value).size = 5) <|
 stAW (⟨r1, 0, none⟩ : Addr) [(.int .u64 (0 : Int)), (.int .i64 (0 : Int)), (.int .i64 (0 : Int)), (.int .u32 (0 : Int)), (.slice none 0 0)] <|
 ldAW [(.int .u64), (.int .i64), (.int .i64), (.int .u32), .slc] (⟨r1, 0, none⟩ : Addr) fun (u4 : (Int × Int × Int × Int × (Option Addr × Nat × Nat) × Unit)) => K (.tuple #[(.agg #[(.int .u64 u4.1), (.int .i64 u4.2.1), (.int .i64 u4.2.2.1), (.int .u32 u4.2.2.2.1), (.slice u4.2.2.2.2.1.1 u4.2.2.2.2.1.2.1 u4.2.2.2.2.1.2.2)]), (.int .i64 u2.2.1)])) <|
 ldW .str ((⟨r3, 0, none⟩ : Addr).add 2) fun (u5 : ByteArray) =>
 splitW (decide (((u5.size : Nat) : Int) < (14 : Int))) (guardW ((#[(.int .u64 (0 : Int)), (.int .i64 (0 : Int)), (.int .i64 (0 : Int)), (.int .u32 (0 : Int)), (.slice none 0 0)] : Array Value).size = 5) <|
 stAW (⟨r1, 0, none⟩ : Addr) [(.int .u64 (0 : Int)), (.int .i64 (0 : Int)), (.int .i64 (0 : Int)), (.int .u32 (0 : Int)), (.slice none 0 0)] <|
 ldAW [(.int .u64), (.int .i64), (.int .i64), (.int .u32), .slc] (⟨r1, 0, none⟩ : Addr) fun (u6 : (Int × Int × Int × Int × (Option Addr × Nat × Nat) × Unit)) => K (.tuple #[(.agg #[(.int .u64 u6.1), (.int .i64 u6.2.1), (.int .i64 u6.2.2.1), (.int .u32 u6.2.2.2.1), (.slice u6.2.2.2.2.1.1 u6.2.2.2.2.1.2.1 u6.2.2.2.2.1.2.2)]), (.int .i64 (4 : Int))])) <|
 ldW .str ((⟨r3, 0, none⟩ : Addr).add 2) fun (u7 : ByteArray) =>
 runW Tryz.prog (Go.convert 9 93 (.string u7)) .slc fun (u8 : (Option Addr × Nat × Nat)) =>
 drewW <|
 ldW (.int .u64) ((⟨r3, 0, none⟩ : Addr).add 1) fun (u9 : Int) =>
 guardW (0 ≤ (4 : Int) ∧ (4 : Int) ≤ ((u8.2.2 : Nat) : Int)) <|
 guardW (0 ≤ (4 : Int) ∧ (4 : Int) ≤ (8 : Int) ∧ (8 : Int) ≤ ((u8.2.2 : Nat) : Int)) <|
 guardW (0 ≤ (8 : Int) ∧ (8 : Int) ≤ (12 : Int) ∧ (12 : Int) ≤ ((u8.2.2 : Nat) : Int)) <|
 bothW (callW Tryz.prog 88 [(.slice (cutAddr u8.1 0 u8.2.2 1) (Int.toNat (4 : Int)) u8.2.2)] (.one (.one (.int .u64))) fun (u10 : Int) =>
 heldW [[(((⟨r3, 0, none⟩ : Addr).add 1), (.int .u64 u9))]] <|
 bothW (callW Tryz.prog 88 [(.slice (cutAddr u8.1 (Int.toNat (4 : Int)) u8.2.2 1) ((Int.toNat (8 : Int)) - (Int.toNat (4 : Int))) (u8.2.2 - (Int.toNat (4 : Int))))] (.one (.one (.int .u64))) fun (u11 : Int) =>
 heldW [[(((⟨r3, 0, none⟩ : Addr).add 1), (.int .u64 u9))]] <|
 bothW (callW Tryz.prog 88 [(.slice (cutAddr u8.1 (Int.toNat (8 : Int)) u8.2.2 1) ((Int.toNat (12 : Int)) - (Int.toNat (8 : Int))) (u8.2.2 - (Int.toNat (8 : Int))))] (.one (.one (.int .u64))) fun (u12 : Int) =>
 heldW [[(((⟨r3, 0, none⟩ : Addr).add 1), (.int .u64 u9))]] <|
 newW (.cells #[(.int .u64 (0 : Int)), (.int .i64 (0 : Int)), (.int .i64 (0 : Int)), (.int .u32 (0 : Int)), (.slice none 0 0)] 79) fun (r13 : Nat) =>
 heldW [[(((⟨r3, 0, none⟩ : Addr).add 1), (.int .u64 u9))]] <|
 guardW ((#[(.int .u64 u9), (.int .i64 (IntKind.wrap .i64 u10)), (.int .i64 (IntKind.wrap .i64 u11)), (.int .u32 (IntKind.wrap .u32 u12)), (.slice none 0 0)] : Array Value).size = 5) <|
 stAW (⟨r13, 0, none⟩ : Addr) [(.int .u64 u9), (.int .i64 (IntKind.wrap .i64 u10)), (.int .i64 (IntKind.wrap .i64 u11)), (.int .u32 (IntKind.wrap .u32 u12)), (.slice none 0 0)] <|
 loopW (Int × Unit) ((14 : Int), ()) fun (y15 : Int × Unit) (I14 : (Int × Unit) → WP) =>
 splitW (decide ((IntKind.wrap .i64 (y15.1 + (4 : Int))) ≤ ((u8.2.1 : Nat) : Int))) (drewW <|
 ldW .slc ((⟨r13, 0, none⟩ : Addr).add 4) fun (u16 : (Option Addr × Nat × Nat)) =>
 guardW (0 ≤ y15.1 ∧ y15.1 ≤ (IntKind.wrap .i64 (y15.1 + (4 : Int))) ∧ (IntKind.wrap .i64 (y15.1 + (4 : Int))) ≤ ((u8.2.2 : Nat) : Int)) <|
 callW Tryz.prog 88 [(.slice (cutAddr u8.1 (Int.toNat y15.1) u8.2.2 1) ((Int.toNat (IntKind.wrap .i64 (y15.1 + (4 : Int)))) - (Int.toNat y15.1)) (u8.2.2 - (Int.toNat y15.1)))] (.one (.one (.int .u64))) fun (u17 : Int) =>
 heldW [[(((⟨r13, 0, none⟩ : Addr).add 4), (.slice u16.1 u16.2.1 u16.2.2))]] <|
 newW (.cells #[(.int .u32 (IntKind.wrap .u32 u17))] 31) fun (r18 : Nat) =>
 heldW [[(((⟨r13, 0, none⟩ : Addr).add 4), (.slice u16.1 u16.2.1 u16.2.2))]] <|
 runW Tryz.prog (Builtin.append_ #[40, 40] 40 #[(.slice u16.1 u16.2.1 u16.2.2), (.slice (some (⟨r18, 0, none⟩ : Addr)) 1 1)]) .slc fun (u19 : (Option Addr × Nat × Nat)) =>
 stW ((⟨r13, 0, none⟩ : Addr).add 4) (.slice u19.1 u19.2.1 u19.2.2) <| I14 ((IntKind.wrap .i64 (y15.1 + (4 : Int))), ())) <|
 ldAW [(.int .u64), (.int .i64), (.int .i64), (.int .u32), .slc] (⟨r13, 0, none⟩ : Addr) fun (u20 : (Int × Int × Int × Int × (Option Addr × Nat × Nat) × Unit)) =>
 callW Tryz.prog 89 [(.agg #[(.int .u64 u20.1), (.int .i64 u20.2.1), (.int .i64 u20.2.2.1), (.int .u32 u20.2.2.2.1), (.slice u20.2.2.2.2.1.1 u20.2.2.2.2.1.2.1 u20.2.2.2.2.1.2.2)])] (.many [(.one .str), (.one (.int .i64))]) fun (u21 : ByteArray × Int × Unit) =>
 splitW (u21.2.1 != (0 : Int)) (guardW ((#[(.int .u64 (0 : Int)), (.int .i64 (0 : Int)), (.int .i64 (0 : Int)), (.int .u32 (0 : Int)), (.slice none 0 0)] : Array Value).size = 5) <|
 stAW (⟨r1, 0, none⟩ : Addr) [(.int .u64 (0 : Int)), (.int .i64 (0 : Int)), (.int .i64 (0 : Int)), (.int .u32 (0 : Int)), (.slice none 0 0)] <|
 ldAW [(.int .u64), (.int .i64), (.int .i64), (.int .u32), .slc] (⟨r1, 0, none⟩ : Addr) fun (u22 : (Int × Int × Int × Int × (Option Addr × Nat × Nat) × Unit)) => K (.tuple #[(.agg #[(.int .u64 u22.1), (.int .i64 u22.2.1), (.int .i64 u22.2.2.1), (.int .u32 u22.2.2.2.1), (.slice u22.2.2.2.2.1.1 u22.2.2.2.2.1.2.1 u22.2.2.2.2.1.2.2)]), (.int .i64 (4 : Int))])) <|
 splitW (!(u21.1.toList == x0.toList)) (guardW ((#[(.int .u64 (0 : Int)), (.int .i64 (0 : Int)), (.int .i64 (0 : Int)), (.int .u32 (0 : Int)), (.slice none 0 0)] : Array Value).size = 5) <|
 stAW (⟨r1, 0, none⟩ : Addr) [(.int .u64 (0 : Int)), (.int .i64 (0 : Int)), (.int .i64 (0 : Int)), (.int .u32 (0 : Int)), (.slice none 0 0)] <|
 ldAW [(.int .u64), (.int .i64), (.int .i64), (.int .u32), .slc] (⟨r1, 0, none⟩ : Addr) fun (u23 : (Int × Int × Int × Int × (Option Addr × Nat × Nat) × Unit)) => K (.tuple #[(.agg #[(.int .u64 u23.1), (.int .i64 u23.2.1), (.int .i64 u23.2.2.1), (.int .u32 u23.2.2.2.1), (.slice u23.2.2.2.2.1.1 u23.2.2.2.2.1.2.1 u23.2.2.2.2.1.2.2)]), (.int .i64 (4 : Int))])) <|
 ldAW [(.int .u64), (.int .i64), (.int .i64), (.int .u32), .slc] (⟨r13, 0, none⟩ : Addr) fun (u24 : (Int × Int × Int × Int × (Option Addr × Nat × Nat) × Unit)) =>
 guardW ((#[(.int .u64 u24.1), (.int .i64 u24.2.1), (.int .i64 u24.2.2.1), (.int .u32 u24.2.2.2.1), (.slice u24.2.2.2.2.1.1 u24.2.2.2.2.1.2.1 u24.2.2.2.2.1.2.2)] : Array Value).size = 5) <|
 stAW (⟨r1, 0, none⟩ : Addr) [(.int .u64 u24.1), (.int .i64 u24.2.1), (.int .i64 u24.2.2.1), (.int .u32 u24.2.2.2.1), (.slice u24.2.2.2.2.1.1 u24.2.2.2.2.1.2.1 u24.2.2.2.2.1.2.2)] <|
 ldAW [(.int .u64), (.int .i64), (.int .i64), (.int .u32), .slc] (⟨r1, 0, none⟩ : Addr) fun (u25 : (Int × Int × Int × Int × (Option Addr × Nat × Nat) × Unit)) => K (.tuple #[(.agg #[(.int .u64 u25.1), (.int .i64 u25.2.1), (.int .i64 u25.2.2.1), (.int .u32 u25.2.2.2.1), (.slice u25.2.2.2.2.1.1 u25.2.2.2.2.1.2.1 u25.2.2.2.2.1.2.2)]), (.int .i64 (0 : Int))])) <|
 newW (.cells #[(.int .u64 (0 : Int)), (.int .i64 (0 : Int)), (.int .i64 (0 : Int)), (.int .u32 (0 : Int)), (.slice none 0 0)] 79) fun (r26 : Nat) =>
 heldW [[(((⟨r3, 0, none⟩ : Addr).add 1), (.int .u64 u9))]] <|
 callW Tryz.prog 88 [(.slice (cutAddr u8.1 (Int.toNat (8 : Int)) u8.2.2 1) ((Int.toNat (12 : Int)) - (Int.toNat (8 : Int))) (u8.2.2 - (Int.toNat (8 : Int))))] (.one (.one (.int .u64))) fun (u27 : Int) =>
 heldW [[(((⟨r3, 0, none⟩ : Addr).add 1), (.int .u64 u9))]] <|
 guardW ((#[(.int .u64 u9), (.int .i64 (IntKind.wrap .i64 u10)), (.int .i64 (IntKind.wrap .i64 u11)), (.int .u32 (IntKind.wrap .u32 u27)), (.slice none 0 0)] : Array Value).size = 5) <|
 stAW (⟨r26, 0, none⟩ : Addr) [(.int .u64 u9), (.int .i64 (IntKind.wrap .i64 u10)), (.int .i64 (IntKind.wrap .i64 u11)), (.int .u32 (IntKind.wrap .u32 u27)), (.slice none 0 0)] <|
 loopW (Int × Unit) ((14 : Int), ()) fun (y29 : Int × Unit) (I28 : (Int × Unit) → WP) =>
 splitW (decide ((IntKind.wrap .i64 (y29.1 + (4 : Int))) ≤ ((u8.2.1 : Nat) : Int))) (drewW <|
 ldW .slc ((⟨r26, 0, none⟩ : Addr).add 4) fun (u30 : (Option Addr × Nat × Nat)) =>
 guardW (0 ≤ y29.1 ∧ y29.1 ≤ (IntKind.wrap .i64 (y29.1 + (4 : Int))) ∧ (IntKind.wrap .i64 (y29.1 + (4 : Int))) ≤ ((u8.2.2 : Nat) : Int)) <|
 callW Tryz.prog 88 [(.slice (cutAddr u8.1 (Int.toNat y29.1) u8.2.2 1) ((Int.toNat (IntKind.wrap .i64 (y29.1 + (4 : Int)))) - (Int.toNat y29.1)) (u8.2.2 - (Int.toNat y29.1)))] (.one (.one (.int .u64))) fun (u31 : Int) =>
 heldW [[(((⟨r26, 0, none⟩ : Addr).add 4), (.slice u30.1 u30.2.1 u30.2.2))]] <|
 newW (.cells #[(.int .u32 (IntKind.wrap .u32 u31))] 31) fun (r32 : Nat) =>
 heldW [[(((⟨r26, 0, none⟩ : Addr).add 4), (.slice u30.1 u30.2.1 u30.2.2))]] <|
 runW Tryz.prog (Builtin.append_ #[40, 40] 40 #[(.slice u30.1 u30.2.1 u30.2.2), (.slice (some (⟨r32, 0, none⟩ : Addr)) 1 1)]) .slc fun (u33 : (Option Addr × Nat × Nat)) =>
 stW ((⟨r26, 0, none⟩ : Addr).add 4) (.slice u33.1 u33.2.1 u33.2.2) <| I28 ((IntKind.wrap .i64 (y29.1 + (4 : Int))), ())) <|
 ldAW [(.int .u64), (.int .i64), (.int .i64), (.int .u32), .slc] (⟨r26, 0, none⟩ : Addr) fun (u34 : (Int × Int × Int × Int × (Option Addr × Nat × Nat) × Unit)) =>
 callW Tryz.prog 89 [(.agg #[(.int .u64 u34.1), (.int .i64 u34.2.1), (.int .i64 u34.2.2.1), (.int .u32 u34.2.2.2.1), (.slice u34.2.2.2.2.1.1 u34.2.2.2.2.1.2.1 u34.2.2.2.2.1.2.2)])] (.many [(.one .str), (.one (.int .i64))]) fun (u35 : ByteArray × Int × Unit) =>
 splitW (u35.2.1 != (0 : Int)) (guardW ((#[(.int .u64 (0 : Int)), (.int .i64 (0 : Int)), (.int .i64 (0 : Int)), (.int .u32 (0 : Int)), (.slice none 0 0)] : Array Value).size = 5) <|
 stAW (⟨r1, 0, none⟩ : Addr) [(.int .u64 (0 : Int)), (.int .i64 (0 : Int)), (.int .i64 (0 : Int)), (.int .u32 (0 : Int)), (.slice none 0 0)] <|
 ldAW [(.int .u64), (.int .i64), (.int .i64), (.int .u32), .slc] (⟨r1, 0, none⟩ : Addr) fun (u36 : (Int × Int × Int × Int × (Option Addr × Nat × Nat) × Unit)) => K (.tuple #[(.agg #[(.int .u64 u36.1), (.int .i64 u36.2.1), (.int .i64 u36.2.2.1), (.int .u32 u36.2.2.2.1), (.slice u36.2.2.2.2.1.1 u36.2.2.2.2.1.2.1 u36.2.2.2.2.1.2.2)]), (.int .i64 (4 : Int))])) <|
 splitW (!(u35.1.toList == x0.toList)) (guardW ((#[(.int .u64 (0 : Int)), (.int .i64 (0 : Int)), (.int .i64 (0 : Int)), (.int .u32 (0 : Int)), (.slice none 0 0)] : Array Value).size = 5) <|
 stAW (⟨r1, 0, none⟩ : Addr) [(.int .u64 (0 : Int)), (.int .i64 (0 : Int)), (.int .i64 (0 : Int)), (.int .u32 (0 : Int)), (.slice none 0 0)] <|
 ldAW [(.int .u64), (.int .i64), (.int .i64), (.int .u32), .slc] (⟨r1, 0, none⟩ : Addr) fun (u37 : (Int × Int × Int × Int × (Option Addr × Nat × Nat) × Unit)) => K (.tuple #[(.agg #[(.int .u64 u37.1), (.int .i64 u37.2.1), (.int .i64 u37.2.2.1), (.int .u32 u37.2.2.2.1), (.slice u37.2.2.2.2.1.1 u37.2.2.2.2.1.2.1 u37.2.2.2.2.1.2.2)]), (.int .i64 (4 : Int))])) <|
 ldAW [(.int .u64), (.int .i64), (.int .i64), (.int .u32), .slc] (⟨r26, 0, none⟩ : Addr) fun (u38 : (Int × Int × Int × Int × (Option Addr × Nat × Nat) × Unit)) =>
 guardW ((#[(.int .u64 u38.1), (.int .i64 u38.2.1), (.int .i64 u38.2.2.1), (.int .u32 u38.2.2.2.1), (.slice u38.2.2.2.2.1.1 u38.2.2.2.2.1.2.1 u38.2.2.2.2.1.2.2)] : Array Value).size = 5) <|
 stAW (⟨r1, 0, none⟩ : Addr) [(.int .u64 u38.1), (.int .i64 u38.2.1), (.int .i64 u38.2.2.1), (.int .u32 u38.2.2.2.1), (.slice u38.2.2.2.2.1.1 u38.2.2.2.2.1.2.1 u38.2.2.2.2.1.2.2)] <|
 ldAW [(.int .u64), (.int .i64), (.int .i64), (.int .u32), .slc] (⟨r1, 0, none⟩ : Addr) fun (u39 : (Int × Int × Int × Int × (Option Addr × Nat × Nat) × Unit)) => K (.tuple #[(.agg #[(.int .u64 u39.1), (.int .i64 u39.2.1), (.int .i64 u39.2.2.1), (.int .u32 u39.2.2.2.1), (.slice u39.2.2.2.2.1.1 u39.2.2.2.2.1.2.1 u39.2.2.2.2.1.2.2)]), (.int .i64 (0 : Int))])) <|
 newW (.cells #[(.int .u64 (0 : Int)), (.int .i64 (0 : Int)), (.int .i64 (0 : Int)), (.int .u32 (0 : Int)), (.slice none 0 0)] 79) fun (r40 : Nat) =>
 heldW [[(((⟨r3, 0, none⟩ : Addr).add 1), (.int .u64 u9))]] <|
 callW Tryz.prog 88 [(.slice (cutAddr u8.1 (Int.toNat (4 : Int)) u8.2.2 1) ((Int.toNat (8 : Int)) - (Int.toNat (4 : Int))) (u8.2.2 - (Int.toNat (4 : Int))))] (.one (.one (.int .u64))) fun (u41 : Int) =>
 heldW [[(((⟨r3, 0, none⟩ : Addr).add 1), (.int .u64 u9))]] <|
 callW Tryz.prog 88 [(.slice (cutAddr u8.1 (Int.toNat (8 : Int)) u8.2.2 1) ((Int.toNat (12 : Int)) - (Int.toNat (8 : Int))) (u8.2.2 - (Int.toNat (8 : Int))))] (.one (.one (.int .u64))) fun (u42 : Int) =>
 heldW [[(((⟨r3, 0, none⟩ : Addr).add 1), (.int .u64 u9))]] <|
 guardW ((#[(.int .u64 u9), (.int .i64 (IntKind.wrap .i64 u10)), (.int .i64 (IntKind.wrap .i64 u41)), (.int .u32 (IntKind.wrap .u32 u42)), (.slice none 0 0)] : Array Value).size = 5) <|
 stAW (⟨r40, 0, none⟩ : Addr) [(.int .u64 u9), (.int .i64 (IntKind.wrap .i64 u10)), (.int .i64 (IntKind.wrap .i64 u41)), (.int .u32 (IntKind.wrap .u32 u42)), (.slice none 0 0)] <|
 loopW (Int × Unit) ((14 : Int), ()) fun (y44 : Int × Unit) (I43 : (Int × Unit) → WP) =>
 splitW (decide ((IntKind.wrap .i64 (y44.1 + (4 : Int))) ≤ ((u8.2.1 : Nat) : Int))) (drewW <|
 ldW .slc ((⟨r40, 0, none⟩ : Addr).add 4) fun (u45 : (Option Addr × Nat × Nat)) =>
 guardW (0 ≤ y44.1 ∧ y44.1 ≤ (IntKind.wrap .i64 (y44.1 + (4 : Int))) ∧ (IntKind.wrap .i64 (y44.1 + (4 : Int))) ≤ ((u8.2.2 : Nat) : Int)) <|
 callW Tryz.prog 88 [(.slice (cutAddr u8.1 (Int.toNat y44.1) u8.2.2 1) ((Int.toNat (IntKind.wrap .i64 (y44.1 + (4 : Int)))) - (Int.toNat y44.1)) (u8.2.2 - (Int.toNat y44.1)))] (.one (.one (.int .u64))) fun (u46 : Int) =>
 heldW [[(((⟨r40, 0, none⟩ : Addr).add 4), (.slice u45.1 u45.2.1 u45.2.2))]] <|
 newW (.cells #[(.int .u32 (IntKind.wrap .u32 u46))] 31) fun (r47 : Nat) =>
 heldW [[(((⟨r40, 0, none⟩ : Addr).add 4), (.slice u45.1 u45.2.1 u45.2.2))]] <|
 runW Tryz.prog (Builtin.append_ #[40, 40] 40 #[(.slice u45.1 u45.2.1 u45.2.2), (.slice (some (⟨r47, 0, none⟩ : Addr)) 1 1)]) .slc fun (u48 : (Option Addr × Nat × Nat)) =>
 stW ((⟨r40, 0, none⟩ : Addr).add 4) (.slice u48.1 u48.2.1 u48.2.2) <| I43 ((IntKind.wrap .i64 (y44.1 + (4 : Int))), ())) <|
 ldAW [(.int .u64), (.int .i64), (.int .i64), (.int .u32), .slc] (⟨r40, 0, none⟩ : Addr) fun (u49 : (Int × Int × Int × Int × (Option Addr × Nat × Nat) × Unit)) =>
 callW Tryz.prog 89 [(.agg #[(.int .u64 u49.1), (.int .i64 u49.2.1), (.int .i64 u49.2.2.1), (.int .u32 u49.2.2.2.1), (.slice u49.2.2.2.2.1.1 u49.2.2.2.2.1.2.1 u49.2.2.2.2.1.2.2)])] (.many [(.one .str), (.one (.int .i64))]) fun (u50 : ByteArray × Int × Unit) =>
 splitW (u50.2.1 != (0 : Int)) (guardW ((#[(.int .u64 (0 : Int)), (.int .i64 (0 : Int)), (.int .i64 (0 : Int)), (.int .u32 (0 : Int)), (.slice none 0 0)] : Array Value).size = 5) <|
 stAW (⟨r1, 0, none⟩ : Addr) [(.int .u64 (0 : Int)), (.int .i64 (0 : Int)), (.int .i64 (0 : Int)), (.int .u32 (0 : Int)), (.slice none 0 0)] <|
 ldAW [(.int .u64), (.int .i64), (.int .i64), (.int .u32), .slc] (⟨r1, 0, none⟩ : Addr) fun (u51 : (Int × Int × Int × Int × (Option Addr × Nat × Nat) × Unit)) => K (.tuple #[(.agg #[(.int .u64 u51.1), (.int .i64 u51.2.1), (.int .i64 u51.2.2.1), (.int .u32 u51.2.2.2.1), (.slice u51.2.2.2.2.1.1 u51.2.2.2.2.1.2.1 u51.2.2.2.2.1.2.2)]), (.int .i64 (4 : Int))])) <|
 splitW (!(u50.1.toList == x0.toList)) (guardW ((#[(.int .u64 (0 : Int)), (.int .i64 (0 : Int)), (.int .i64 (0 : Int)), (.int .u32 (0 : Int)), (.slice none 0 0)] : Array Value).size = 5) <|
 stAW (⟨r1, 0, none⟩ : Addr) [(.int .u64 (0 : Int)), (.int .i64 (0 : Int)), (.int .i64 (0 : Int)), (.int .u32 (0 : Int)), (.slice none 0 0)] <|
 ldAW [(.int .u64), (.int .i64), (.int .i64), (.int .u32), .slc] (⟨r1, 0, none⟩ : Addr) fun (u52 : (Int × Int × Int × Int × (Option Addr × Nat × Nat) × Unit)) => K (.tuple #[(.agg #[(.int .u64 u52.1), (.int .i64 u52.2.1), (.int .i64 u52.2.2.1), (.int .u32 u52.2.2.2.1), (.slice u52.2.2.2.2.1.1 u52.2.2.2.2.1.2.1 u52.2.2.2.2.1.2.2)]), (.int .i64 (4 : Int))])) <|
 ldAW [(.int .u64), (.int .i64), (.int .i64), (.int .u32), .slc] (⟨r40, 0, none⟩ : Addr) fun (u53 : (Int × Int × Int × Int × (Option Addr × Nat × Nat) × Unit)) =>
 guardW ((#[(.int .u64 u53.1), (.int .i64 u53.2.1), (.int .i64 u53.2.2.1), (.int .u32 u53.2.2.2.1), (.slice u53.2.2.2.2.1.1 u53.2.2.2.2.1.2.1 u53.2.2.2.2.1.2.2)] : Array Value).size = 5) <|
 stAW (⟨r1, 0, none⟩ : Addr) [(.int .u64 u53.1), (.int .i64 u53.2.1), (.int .i64 u53.2.2.1), (.int .u32 u53.2.2.2.1), (.slice u53.2.2.2.2.1.1 u53.2.2.2.2.1.2.1 u53.2.2.2.2.1.2.2)] <|
 ldAW [(.int .u64), (.int .i64), (.int .i64), (.int .u32), .slc] (⟨r1, 0, none⟩ : Addr) fun (u54 : (Int × Int × Int × Int × (Option Addr × Nat × Nat) × Unit)) => K (.tuple #[(.agg #[(.int .u64 u54.1), (.int .i64 u54.2.1), (.int .i64 u54.2.2.1), (.int .u32 u54.2.2.2.1), (.slice u54.2.2.2.2.1.1 u54.2.2.2.2.1.2.1 u54.2.2.2.2.1.2.2)]), (.int .i64 (0 : Int))])) <|
 newW (.cells #[(.int .u64 (0 : Int)), (.int .i64 (0 : Int)), (.int .i64 (0 : Int)), (.int .u32 (0 : Int)), (.slice none 0 0)] 79) fun (r55 : Nat) =>
 heldW [[(((⟨r3, 0, none⟩ : Addr).add 1), (.int .u64 u9))]] <|
 callW Tryz.prog 88 [(.slice (cutAddr u8.1 0 u8.2.2 1) (Int.toNat (4 : Int)) u8.2.2)] (.one (.one (.int .u64))) fun (u56 : Int) =>
 heldW [[(((⟨r3, 0, none⟩ : Addr).add 1), (.int .u64 u9))]] <|
 callW Tryz.prog 88 [(.slice (cutAddr u8.1 (Int.toNat (4 : Int)) u8.2.2 1) ((Int.toNat (8 : Int)) - (Int.toNat (4 : Int))) (u8.2.2 - (Int.toNat (4 : Int))))] (.one (.one (.int .u64))) fun (u57 : Int) =>
 heldW [[(((⟨r3, 0, none⟩ : Addr).add 1), (.int .u64 u9))]] <|
 callW Tryz.prog 88 [(.slice (cutAddr u8.1 (Int.toNat (8 : Int)) u8.2.2 1) ((Int.toNat (12 : Int)) - (Int.toNat (8 : Int))) (u8.2.2 - (Int.toNat (8 : Int))))] (.one (.one (.int .u64))) fun (u58 : Int) =>
 heldW [[(((⟨r3, 0, none⟩ : Addr).add 1), (.int .u64 u9))]] <|
 guardW ((#[(.int .u64 u9), (.int .i64 (IntKind.wrap .i64 u56)), (.int .i64 (IntKind.wrap .i64 u57)), (.int .u32 (IntKind.wrap .u32 u58)), (.slice none 0 0)] : Array Value).size = 5) <|
 stAW (⟨r55, 0, none⟩ : Addr) [(.int .u64 u9), (.int .i64 (IntKind.wrap .i64 u56)), (.int .i64 (IntKind.wrap .i64 u57)), (.int .u32 (IntKind.wrap .u32 u58)), (.slice none 0 0)] <|
 loopW (Int × Unit) ((14 : Int), ()) fun (y60 : Int × Unit) (I59 : (Int × Unit) → WP) =>
 splitW (decide ((IntKind.wrap .i64 (y60.1 + (4 : Int))) ≤ ((u8.2.1 : Nat) : Int))) (drewW <|
 ldW .slc ((⟨r55, 0, none⟩ : Addr).add 4) fun (u61 : (Option Addr × Nat × Nat)) =>
 guardW (0 ≤ y60.1 ∧ y60.1 ≤ (IntKind.wrap .i64 (y60.1 + (4 : Int))) ∧ (IntKind.wrap .i64 (y60.1 + (4 : Int))) ≤ ((u8.2.2 : Nat) : Int)) <|
 callW Tryz.prog 88 [(.slice (cutAddr u8.1 (Int.toNat y60.1) u8.2.2 1) ((Int.toNat (IntKind.wrap .i64 (y60.1 + (4 : Int)))) - (Int.toNat y60.1)) (u8.2.2 - (Int.toNat y60.1)))] (.one (.one (.int .u64))) fun (u62 : Int) =>
 heldW [[(((⟨r55, 0, none⟩ : Addr).add 4), (.slice u61.1 u61.2.1 u61.2.2))]] <|
 newW (.cells #[(.int .u32 (IntKind.wrap .u32 u62))] 31) fun (r63 : Nat) =>
 heldW [[(((⟨r55, 0, none⟩ : Addr).add 4), (.slice u61.1 u61.2.1 u61.2.2))]] <|
 runW Tryz.prog (Builtin.append_ #[40, 40] 40 #[(.slice u61.1 u61.2.1 u61.2.2), (.slice (some (⟨r63, 0, none⟩ : Addr)) 1 1)]) .slc fun (u64 : (Option Addr × Nat × Nat)) =>
 stW ((⟨r55, 0, none⟩ : Addr).add 4) (.slice u64.1 u64.2.1 u64.2.2) <| I59 ((IntKind.wrap .i64 (y60.1 + (4 : Int))), ())) <|
 ldAW [(.int .u64), (.int .i64), (.int .i64), (.int .u32), .slc] (⟨r55, 0, none⟩ : Addr) fun (u65 : (Int × Int × Int × Int × (Option Addr × Nat × Nat) × Unit)) =>
 callW Tryz.prog 89 [(.agg #[(.int .u64 u65.1), (.int .i64 u65.2.1), (.int .i64 u65.2.2.1), (.int .u32 u65.2.2.2.1), (.slice u65.2.2.2.2.1.1 u65.2.2.2.2.1.2.1 u65.2.2.2.2.1.2.2)])] (.many [(.one .str), (.one (.int .i64))]) fun (u66 : ByteArray × Int × Unit) =>
 splitW (u66.2.1 != (0 : Int)) (guardW ((#[(.int .u64 (0 : Int)), (.int .i64 (0 : Int)), (.int .i64 (0 : Int)), (.int .u32 (0 : Int)), (.slice none 0 0)] : Array Value).size = 5) <|
 stAW (⟨r1, 0, none⟩ : Addr) [(.int .u64 (0 : Int)), (.int .i64 (0 : Int)), (.int .i64 (0 : Int)), (.int .u32 (0 : Int)), (.slice none 0 0)] <|
 ldAW [(.int .u64), (.int .i64), (.int .i64), (.int .u32), .slc] (⟨r1, 0, none⟩ : Addr) fun (u67 : (Int × Int × Int × Int × (Option Addr × Nat × Nat) × Unit)) => K (.tuple #[(.agg #[(.int .u64 u67.1), (.int .i64 u67.2.1), (.int .i64 u67.2.2.1), (.int .u32 u67.2.2.2.1), (.slice u67.2.2.2.2.1.1 u67.2.2.2.2.1.2.1 u67.2.2.2.2.1.2.2)]), (.int .i64 (4 : Int))])) <|
 splitW (!(u66.1.toList == x0.toList)) (guardW ((#[(.int .u64 (0 : Int)), (.int .i64 (0 : Int)), (.int .i64 (0 : Int)), (.int .u32 (0 : Int)), (.slice none 0 0)] : Array Value).size = 5) <|
 stAW (⟨r1, 0, none⟩ : Addr) [(.int .u64 (0 : Int)), (.int .i64 (0 : Int)), (.int .i64 (0 : Int)), (.int .u32 (0 : Int)), (.slice none 0 0)] <|
 ldAW [(.int .u64), (.int .i64), (.int .i64), (.int .u32), .slc] (⟨r1, 0, none⟩ : Addr) fun (u68 : (Int × Int × Int × Int × (Option Addr × Nat × Nat) × Unit)) => K (.tuple #[(.agg #[(.int .u64 u68.1), (.int .i64 u68.2.1), (.int .i64 u68.2.2.1), (.int .u32 u68.2.2.2.1), (.slice u68.2.2.2.2.1.1 u68.2.2.2.2.1.2.1 u68.2.2.2.2.1.2.2)]), (.int .i64 (4 : Int))])) <|
 ldAW [(.int .u64), (.int .i64), (.int .i64), (.int .u32), .slc] (⟨r55, 0, none⟩ : Addr) fun (u69 : (Int × Int × Int × Int × (Option Addr × Nat × Nat) × Unit)) =>
 guardW ((#[(.int .u64 u69.1), (.int .i64 u69.2.1), (.int .i64 u69.2.2.1), (.int .u32 u69.2.2.2.1), (.slice u69.2.2.2.2.1.1 u69.2.2.2.2.1.2.1 u69.2.2.2.2.1.2.2)] : Array Value).size = 5) <|
 stAW (⟨r1, 0, none⟩ : Addr) [(.int .u64 u69.1), (.int .i64 u69.2.1), (.int .i64 u69.2.2.1), (.int .u32 u69.2.2.2.1), (.slice u69.2.2.2.2.1.1 u69.2.2.2.2.1.2.1 u69.2.2.2.2.1.2.2)] <|
 ldAW [(.int .u64), (.int .i64), (.int .i64), (.int .u32), .slc] (⟨r1, 0, none⟩ : Addr) fun (u70 : (Int × Int × Int × Int × (Option Addr × Nat × Nat) × Unit)) => K (.tuple #[(.agg #[(.int .u64 u70.1), (.int .i64 u70.2.1), (.int .i64 u70.2.2.1), (.int .u32 u70.2.2.2.1), (.slice u70.2.2.2.2.1.1 u70.2.2.2.2.1.2.1 u70.2.2.2.2.1.2.2)]), (.int .i64 (0 : Int))])
theorem eq50 (x0 : ByteArray) (K : Value → WP) : bodyW Tryz.prog Tryz.f50 an50 false [(.string x0)] K = S50 x0 K := by kernel_rfl
theorem calls50 (x0 : ByteArray) {K : Value → WP} {w : World} (h : S50 x0 K w) : Calls Tryz.prog 50 #[(.string x0)] w (Ret K) := callsR_of_bodyW mixed Tryz.func50 (of_decide_eq_true (by kernel_rfl)) (by rw [eq50]; exact h)
def an51 : Ann := (.seq .nil (.seq (.seq .nil (.seq .nil (.cond (.seq .nil .nil) .nil))) (.seq .nil .nil)))
def S51 (x0_0 : Int) (x0_1 : Int) (K : Value → WP) : WP := 
 newW (.cells #[(.int .i64 x0_0), (.int .i64 x0_1)] 23) fun (r1 : Nat) =>
 ldAW [(.int .i64), (.int .i64)] (⟨r1, 0, none⟩ : Addr) fun (u2 : (Int × Int × Unit)) =>
 callW Tryz.prog 90 [(.agg #[(.int .i64 u2.1), (.int .i64 u2.2.1)])] (.one (.one (.int .i64))) fun (u3 : Int) =>
 splitW (u3 != (0 : Int)) (K (.tuple #[(.pointer none), (.int .i64 u3)])) <|
 drewW <|
 ldAW [(.int .i64), (.int .i64)] (⟨r1, 0, none⟩ : Addr) fun (u4 : (Int × Int × Unit)) =>
 ldW (.int .i64) (⟨r1, 0, none⟩ : Addr) fun (u5 : Int) =>
 ldW (.int .i64) ((⟨r1, 0, none⟩ : Addr).add 1) fun (u6 : Int) =>
 callW Tryz.prog 92 [(.string (ByteArray.mk #[0])), (.int .i64 u5)] (.one (.one .str)) fun (u7 : ByteArray) =>
 heldW [[(((⟨r1, 0, none⟩ : Addr).add 1), (.int .i64 u6))], [((⟨r1, 0, none⟩ : Addr).add 0, (.int .i64 u4.1)), ((⟨r1, 0, none⟩ : Addr).add 1, (.int .i64 u4.2.1))]] <|
 newW (.cells #[(.string u7)] 9) fun (r8 : Nat) =>
 heldW [[(((⟨r1, 0, none⟩ : Addr).add 1), (.int .i64 u6))], [((⟨r1, 0, none⟩ : Addr).add 0, (.int .i64 u4.1)), ((⟨r1, 0, none⟩ : Addr).add 1, (.int .i64 u4.2.1))]] <|
 callW Tryz.prog 91 [(.slice (some (⟨r8, 0, none⟩ : Addr)) 1 1), (.int .i64 u6)] (.one (.one .slc)) fun (u9 : (Option Addr × Nat × Nat)) =>
 heldW [[((⟨r1, 0, none⟩ : Addr).add 0, (.int .i64 u4.1)), ((⟨r1, 0, none⟩ : Addr).add 1, (.int .i64 u4.2.1))]] <|
 newW (.cells #[(.int .i64 u4.1), (.int .i64 u4.2.1), (.slice u9.1 u9.2.1 u9.2.2), (.slice none 0 0), (.int .i64 (0 : Int)), (.int .i64 (-1 : Int))] 101) fun (r10 : Nat) => K (.tuple #[(.pointer (some (⟨r10, 0, none⟩ : Addr))), (.int .i64 (0 : Int))])
end Go.Proofs.YtjdmggaeagnolaaGreatDoor.V
