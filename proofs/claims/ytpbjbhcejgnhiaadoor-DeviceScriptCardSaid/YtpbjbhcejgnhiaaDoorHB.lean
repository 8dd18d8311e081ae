/- []byte(s) of a string, written into: the row bears the mark of a conversion behind its cells. -/
import Derived.Test.YtpbjbhcejgnhiaaDoorHP
import Derived.Test.YtpbjbhcejgnhiaaDoorHS
set_option linter.unusedVariables false
set_option linter.unusedSimpArgs false
namespace Go.Proofs.YtpbjbhcejgnhiaaDoor.V
open Go Go.Proofs Go.RowKit

/-- A block known whole, with the mark of a conversion behind its cells. -/
def BlkB (w : World) (b : Nat) (cs : List Value) (t : TypeId) : Prop := w.heap[b]? = some (.cells cs.toArray t (cs.length, cs.length + 1))
variable {w w' : World} {b : Nat} {cs : List Value} {t : TypeId}
theorem BlkB.lt (h : BlkB w b cs t) : b < w.heap.size := (Array.getElem?_eq_some_iff.1 h).1
theorem BlkB.cell (h : BlkB w b cs t) (o : Nat) : w.cell? ⟨b, o, none⟩ = cs[o]? := by simp [World.cell?, show w.heap[b]? = _ from h]
theorem BlkB.frozen (h : BlkB w b cs t) {o : Nat} (ho : o < cs.length) : w.frozen? ⟨b, o, none⟩ = false := by
  simp [World.frozen?, show w.heap[b]? = _ from h]
  omega
theorem BlkB.ext (h : BlkB w b cs t) (he : Ext w w') : BlkB w' b cs t := he.heap h
theorem BlkB.set (h : BlkB w b cs t) (o : Nat) (v : Value) : BlkB (w.setCell ⟨b, o, none⟩ v) b (cs.set o v) t := by
  obtain ⟨hlt, hk⟩ := Array.getElem?_eq_some_iff.1 h
  show (w.heap.modify b _)[b]? = _
  rw [Array.getElem?_eq_getElem (by rw [Array.size_modify]; exact hlt), Array.getElem_modify_self, hk]
  simp
theorem BlkB.setCells_from : ∀ (vs : List Value) (i : Nat) (w : World) (cs : List Value), BlkB w b cs t → i + vs.length ≤ cs.length → BlkB (setCells w ⟨b, 0, none⟩ i vs) b (cs.take i ++ vs ++ cs.drop (i + vs.length)) t
  | [], i, w, cs, h, _ => by simpa [setCells] using h
  | v :: r, i, w, cs, h, hl => by
    simp only [setCells, add_mk, Nat.zero_add]
    have h1 := h.set i v
    have h2 := BlkB.setCells_from r (i + 1) _ _ h1 (by simp only [List.length_set, List.length_cons] at hl ⊢; omega)
    have hlen : i < cs.length := by simp only [List.length_cons] at hl; omega
    have e : (cs.set i v).take (i + 1) ++ r ++ (cs.set i v).drop (i + 1 + r.length) = cs.take i ++ (v :: r) ++ cs.drop (i + (v :: r).length) := by
      rw [List.drop_set_of_lt (by omega), List.take_set, List.set_eq_take_append_cons_drop]
      have : i < (cs.take (i + 1)).length := by simp; omega
      rw [if_pos this]
      simp [List.take_take, Nat.min_eq_left (show i ≤ i + 1 by omega), Nat.add_comm, Nat.add_left_comm]
    rw [e] at h2
    exact h2
theorem BlkB.storable_from (h : BlkB w b cs t) : ∀ (vs : List Value) (i : Nat), i + vs.length ≤ cs.length → (∀ v ∈ vs, v.oneCell' = true) → Storable w ⟨b, 0, none⟩ i vs
  | [], _, _, _ => trivial
  | v :: r, i, hl, ho => by
    simp only [List.length_cons] at hl
    refine ⟨ho v List.mem_cons_self, ?_, ?_, BlkB.storable_from h r (i + 1) (by omega) (fun x hx => ho x (List.mem_cons_of_mem _ hx))⟩
    · rw [add_mk, h.cell]; exact ⟨_, List.getElem?_eq_getElem (by omega)⟩
    · rw [add_mk]; exact h.frozen (by omega)
theorem blkB_put {w : World} {b o : Nat} {cs vs : List Value} {t : TypeId} (h : BlkB w b cs t) (hl : o + vs.length ≤ cs.length) (hv : ∀ v ∈ vs, v.oneCell' = true) :
    Storable w ⟨b, o, none⟩ 0 vs ∧ BlkB (setCells w ⟨b, o, none⟩ 0 vs) b (cs.take o ++ vs ++ cs.drop (o + vs.length)) t ∧ w.grownBy (setCells w ⟨b, o, none⟩ 0 vs) (some b) := by
  refine ⟨storable_shift b o vs 0 w (h.storable_from vs o hl hv), ?_, ?_⟩
  · rw [setCells_shift]
    exact BlkB.setCells_from vs o w cs h hl
  · obtain ⟨m1, m2, m3⟩ := setCells_meta b vs 0 o w
    exact ⟨m1, m2, m3, by rw [setCells_size]; exact Nat.le_refl _, fun k hk hne => setCells_other b vs 0 o w k (fun e => hne (by rw [e]))⟩
theorem BlkB.sl {n : Nat} {vs rest : List Value} (h : BlkB w b (vs ++ rest) t) (hn : vs.length = n) (hm : n ≤ 9223372036854775807) : Sl w (some ⟨b, 0, none⟩) n vs := by
  refine ⟨hn, hm, fun _ => ⟨_, rfl, fun j v hj => ?_⟩⟩
  rw [add_mk, h.cell, Nat.zero_add, List.getElem?_append_left (List.getElem?_eq_some_iff.1 hj).1]
  exact hj
section
variable {P : Program} {e : TypeId} {z : Value} {bytes : Nat} {src dst : TypeId}
theorem conv_bytesB {w : World} {s : ByteArray} {u : TypeDesc} {K : (Option Addr × Nat × Nat) → WP} (hs : P.underlying src = some u) (hd : P.underlying dst = some (.slice e)) (he : P.underlying e = some (.int .u8))
    (hK : ∀ c w' rest, BlkB w' w.heap.size (bV (B s) ++ rest) e → Ext w w' → w'.heap.size = w.heap.size + 1 → s.size ≤ c → K (some ⟨w.heap.size, 0, none⟩, s.size, c) w') :
    runW P (convert src dst (.string s)) .slc K w := by
  refine ⟨(some ⟨w.heap.size, 0, none⟩, s.size, _), _, Go.Lib.run_convert_string_bytes w src dst e s hs hd he, hK _ _ (List.replicate (grownCap w s.size 0 e - s.size) (.int .u8 0)) ?_ ?_ (Go.Lib.bytesWorld_size w e s) ?_⟩
  · have hc : (Go.Lib.bytesCells w e s) = (bV (B s) ++ List.replicate (grownCap w s.size 0 e - s.size) (Value.int .u8 0)).toArray := by
      apply Array.toList_inj.1
      simp [Go.Lib.bytesCells, bV, B]
    have := Go.Lib.bytesWorld_at_new w e s
    rw [hc] at this
    unfold BlkB
    rw [this]
    rfl
  · exact ⟨rfl, rfl, rfl, by rw [Go.Lib.bytesWorld_size]; omega, fun k hk => Go.Lib.bytesWorld_at_old w e s k hk⟩
  · exact grownCap_ge _ _ _ _
theorem copy_strB {t : TypeId} {w : World} {b o n c : Nat} {ty u t2 : TypeId} {cs : List Value} {s : ByteArray} {K : Int → WP} (hE : Elem P t e z bytes) (hb : BlkB w b cs t2) (ho : o + n ≤ cs.length)
    (hK : ∀ w', BlkB w' b (cs.take o ++ bV ((B s).take n) ++ cs.drop (o + min (B s).length n)) t2 → w.grownBy w' (some b) → K ((min (B s).length n : Nat) : Int) w') :
    runW P (Builtin.copy_ #[t, u] ty #[.slice (some ⟨b, o, none⟩) n c, .string s]) (.int .i64) K w := by
  obtain ⟨ht, hi, hz⟩ := hE
  obtain ⟨i, hi, hii⟩ := Option.map_eq_some_iff.1 hi
  simp only [Prod.mk.injEq] at hii
  obtain ⟨hz0, hz1, hz2⟩ := hii
  have hsz := B_size s
  have hlen : (bV ((B s).take n)).length = min (B s).length n := by rw [length_bV, List.length_take, Nat.min_comm]
  obtain ⟨hst, hbl, hg⟩ := blkB_put hb (o := o) (vs := bV ((B s).take n)) (by rw [hlen]; omega) (bV_one _)
  rw [hlen] at hbl
  have hstore := run_storeCells (P := P) hst
  have e1 : List.take (if s.size ≤ n then s.size else n) (List.map (fun b => Value.int IntKind.u8 (b.toNat : Int)) s.data.toList) = bV ((B s).take n) := by
    rw [← Nat.min_def, hsz]
    show List.take _ (bV (B s)) = _
    rw [bV_take]
    congr 1
    rcases Nat.le_total (B s).length n with h | h
    · rw [Nat.min_eq_left h, List.take_length, List.take_of_length_le h]
    · rw [Nat.min_eq_right h]
  refine ⟨((min (B s).length n : Nat) : Int), _, ?_, hK _ hbl hg⟩
  rw [← hsz]
  simp [Builtin.copy_, run_underlying ht, sizeOf, typeInfo, hi, Builtin.lenOf, Builtin.firstCells, hstore, goInt, Nat.min_def, Lf.val]
  rw [e1, hstore]
  rfl
end
end Go.Proofs.YtpbjbhcejgnhiaaDoor.V
