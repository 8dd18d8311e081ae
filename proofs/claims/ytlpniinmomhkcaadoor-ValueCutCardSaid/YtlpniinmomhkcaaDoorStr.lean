/- Strings as lists of bytes. It speaks of no program. -/
import Derived.Test.YtlpniinmomhkcaaDoorHK
import Derived.Test.YtlpniinmomhkcaaDoorNum2
import Derived.ChangeKeysEq
import Derived.Lib.AppendStr
import Derived.Laws.BytesArg
import Derived.Laws.StructEq
set_option linter.unusedVariables false
set_option linter.unusedSimpArgs false
namespace Go.Proofs.YtlpniinmomhkcaaDoor.V
open Go Go.Lib

def B (s : ByteArray) : List UInt8 := s.data.toList
theorem B_size (s : ByteArray) : s.size = (B s).length := by
  show s.data.size = s.data.toList.length
  rw [Array.length_toList]
theorem B_inj {a b : ByteArray} (h : B a = B b) : a = b := ByteArray.ext (Array.toList_inj.1 h)
theorem B_mk (l : List UInt8) : B ⟨l.toArray⟩ = l := rfl
theorem B_append (a b : ByteArray) : B (a ++ b) = B a ++ B b := by simp [B]
theorem B_extract (s : ByteArray) (i j : Nat) : B (s.extract i j) = ((B s).drop i).take (j - i) := by
  simp [B, ByteArray.data_extract, List.drop_take]
theorem str_beq (a b : ByteArray) : (a.toList == b.toList) = decide (B a = B b) := by
  rw [ByteArray.toList_eq, ByteArray.toList_eq]
  unfold B
  rw [Bool.eq_iff_iff, beq_iff_eq, decide_eq_true_iff]
theorem bt_eq {s : ByteArray} {i : Int} (h0 : 0 ≤ i) (h1 : i < (s.size : Int)) : bt s i = (((B s).getD i.toNat 0).toNat : Int) := by
  have hlt : i.toNat < s.data.size := by have : s.data.size = s.size := rfl; omega
  unfold bt B
  rw [Array.getElem?_eq_getElem hlt]
  simp only [Option.map_some, Option.getD_some, List.getD_eq_getElem?_getD, Array.getElem?_toList, Array.getElem?_eq_getElem hlt]
theorem get_B {s : ByteArray} {i : Nat} (h : i < s.size) : s.get! i = (B s).getD i 0 := by
  have hlt : i < s.data.size := h
  unfold B
  simp only [ByteArray.get!, List.getD_eq_getElem?_getD, Array.getElem?_toList, Array.getElem?_eq_getElem hlt, Option.getD_some]
  rw [getElem!_pos s.data i hlt]
theorem decode_ascii {s : ByteArray} {i : Nat} (h : i < s.size) (hb : ((B s).getD i 0).toNat < 128) : Utf8.decode s i = (((B s).getD i 0).toNat, 1) := by
  unfold Utf8.decode
  simp only [Nat.add_zero, get_B h]
  rw [if_pos hb]
theorem decode_other {s : ByteArray} {i : Nat} (h : i < s.size) (hb : ¬ ((B s).getD i 0).toNat < 128) : 128 ≤ (Utf8.decode s i).1 := by
  unfold Utf8.decode
  simp only [Nat.add_zero, get_B h]
  rw [if_neg hb]
  repeat' split
  all_goals first | (simp only [Utf8.runeError]; omega) | skip
  all_goals (rename_i h1; first | omega | (simp only [Bool.and_eq_true, decide_eq_true_eq, ge_iff_le] at h1; omega))
theorem Ext.setO {a w : World} (h : Ext a w) {l : Nat} (hl : a.heap.size ≤ l) (o : Obj) : Ext a (setO w l o) :=
  ⟨h.os, h.tape, h.output, by
    show _ ≤ (w.heap.setIfInBounds l o).size
    rw [Array.size_setIfInBounds]
    exact h.size, fun k hk => by
    show (w.heap.setIfInBounds l o)[k]? = _
    rw [Array.getElem?_setIfInBounds_ne (by omega)]
    exact h.block k hk⟩
theorem setO_same {w : World} {l : Nat} {o : Obj} (h : l < w.heap.size) : (setO w l o).heap[l]? = some o := by
  simp only [setO]
  rw [Array.getElem?_setIfInBounds_self_of_lt h]
theorem setO_other {w : World} {l k : Nat} {o : Obj} (h : l ≠ k) : (setO w l o).heap[k]? = w.heap[k]? := by
  simp only [setO]
  rw [Array.getElem?_setIfInBounds_ne h]
theorem setO_size {w : World} {l : Nat} {o : Obj} : (setO w l o).heap.size = w.heap.size := by simp [setO]
theorem strCells_eq (s : ByteArray) : strCells s = bV (B s) := rfl
section
variable {P : Program} {t u e d : TypeId}
/-- append(s, "..."...) -/
theorem append_str {w : World} {B0 : Nat} {ty : TypeId} {A : Option Addr} {n c : Nat} {bs : List UInt8} {s : ByteArray} {K : (Option Addr × Nat × Nat) → WP} (hE : Elem P t e (.int .u8 0) 1) (hu : P.underlying u = some .string) (ho : Own e w B0 A n c (bV bs)) (hB : B0 ≤ w.heap.size)
    (hlen : n + s.size ≤ 140737488355328)
    (hK : ∀ A' c' w', Own e w' B0 A' (n + s.size) c' (bV (bs ++ B s)) → Grew w w' (orow A) (orow A') → K (A', n + s.size, c') w') :
    runW P (Builtin.append_ #[t, u] ty #[.slice A n c, .string s]) .slc K w := by
  obtain ⟨ht, hi, hz⟩ := hE
  obtain ⟨i, hi, hii⟩ := Option.map_eq_some_iff.1 hi
  simp only [Prod.mk.injEq] at hii
  obtain ⟨hz0, hz1, hz2⟩ := hii
  obtain ⟨v', w', hr, hown, hg, hn⟩ := run_append_own_string (P := P) w B0 t u ty e i ht hu hi hz0 hz1 hz2 (.slice A n c) n _ ho s (by simp only [maxLen]; omega) hlen hB
  have hrow : ∀ j, v'.ownBlock = some j → Value.ownBlock (.slice A n c) = some j ∨ w.heap.size ≤ j := by
    rcases ho.2 with ⟨h1, h2⟩ | ⟨g, cap, cur, hv, hbg, hg, hnc, hcm, hcs, htake⟩
    · rw [h1] at hr ⊢
      subst h2
      by_cases hm0 : s.size = 0
      · have := hn.2 ⟨h1, hm0⟩
        rw [this]
        intro j hj
        exact .inl hj
      · have hr2 := run_append_nil_string (P := P) w t u ty e i (.int .u8 0) ht hu hi hz0 s (by omega) (by omega) (by rw [hz2]; omega)
        rw [hr] at hr2
        injection hr2 with e1 e2
        subst e1
        intro j hj
        injection hj with hj
        exact .inr (Nat.le_of_eq hj)
    · unfold Own at ho
      rw [hv] at hr ho ⊢
      by_cases hroom : n + s.size ≤ cap
      · have hr2 := run_append_room_string (P := P) w t u ty e i ht hu hi hz1 g n cap cur hg s hroom (by omega)
        rw [hr] at hr2
        injection hr2 with e1 e2
        subst e1
        intro j hj
        exact .inl hj
      · have hr2 := run_append_grow_string (P := P) w t u ty e i (.int .u8 0) ht hu hi hz0 ⟨g, 0, none⟩ n cap (bV bs) (by rw [hz1]; exact ho.1) (World.ownsRow.cells ho (g := g) rfl) s (by omega) (by omega) (growslice_fits (by omega) (by rw [hz2]; omega))
        rw [hr] at hr2
        injection hr2 with e1 e2
        subst e1
        intro j hj
        injection hj with hj
        exact .inr (Nat.le_of_eq hj)
  rw [strCells_eq, ← bV_append] at hown
  obtain ⟨A', c', rfl⟩ : ∃ A' c', v' = .slice A' (n + s.size) c' := by
    rcases hown.2 with ⟨h1, h2⟩ | ⟨g, cap, cur, hv, _⟩
    · exact ⟨none, 0, by rw [h1, h2]⟩
    · exact ⟨_, _, hv⟩
  refine ⟨(A', n + s.size, c'), w', hr, hK A' c' w' hown ⟨by rw [orow_eq] at hg; exact hg, fun j hj => ?_⟩⟩
  have := hrow j (by rw [orow_eq]; exact hj)
  rw [orow_eq] at this
  exact this
/-- string(b) -/
theorem conv_str {w : World} {A : Option Addr} {n c : Nat} {bs : List UInt8} {K : ByteArray → WP} (ht : P.underlying t = some (.slice e)) (he : P.underlying e = some (.int .u8)) (hd : P.underlying d = some .string) (h : Sl w A n (bV bs)) (hK : K ⟨bs.toArray⟩ w) :
    runW P (convert t d (.slice A n c)) .str K w := by
  refine ⟨⟨bs.toArray⟩, w, ?_, hK⟩
  have hl := h.blen
  cases A with
  | none =>
    obtain rfl : n = 0 := by
      rcases Nat.eq_zero_or_pos n with h0 | h0
      · exact h0
      · obtain ⟨a, h1, _⟩ := h.2.2 h0; cases h1
    obtain rfl : bs = [] := List.eq_nil_of_length_eq_zero hl
    exact run_convert_bytes_nil (P := P) w t e ht he 0 c d hd
  | some a =>
    have hload : (loadCells a n).run P w = .ok ((bs.map fun b => (b.toNat : Int)).map (Value.int .u8)).toArray w := by
      have e1 : (bs.map fun b => (b.toNat : Int)).map (Value.int .u8) = bV bs := by simp [bV]
      rw [e1]
      have := run_loadCells_list (P := P) w a (bV bs) (fun j v hj => by
        have hn : 0 < n := by
          have := (List.getElem?_eq_some_iff.1 hj).1
          rw [length_bV] at this
          omega
        obtain ⟨a', h1, h2⟩ := h.2.2 hn
        cases h1
        exact h2 j v hj)
      rw [length_bV, hl] at this
      exact this
    rw [run_convert_bytes_string w t d e _ n c ht he hd, run_bytesToString w _ n c _ hload, foldl_push_bytes]
    congr 1
    show Value.string _ = Value.string _
    congr 1
    apply ByteArray.ext
    apply Array.toList_inj.1
    simp only [ByteArray.empty, ByteArray.emptyWithCapacity, Array.toList_append, List.map_map]
    have e2 : (bs.map ((fun n : Int => UInt8.ofNat n.toNat) ∘ fun b : UInt8 => (b.toNat : Int))) = bs := by
      conv => rhs; rw [← List.map_id bs]
      apply List.map_congr_left
      intro b _
      simp
    rw [e2]
    rfl
end
section
variable {P : Program} {w : World}
theorem eqFields_step {d : Nat} {xs ys : Array Value} {f : Field} {fs : List Field} {a b : Value} {r : Bool} (hn : f.name ≠ "_") (ha : (part f.type xs f.offset).run P w = .ok a w) (hb : (part f.type ys f.offset).run P w = .ok b w) (he : (Op.equalIn d f.type a b).run P w = .ok r w)
    {q : Bool} (hq : (Op.eqFields d xs ys fs).run P w = .ok q w) : (Op.eqFields d xs ys (f :: fs)).run P w = .ok (r && q) w := by
  simp only [Op.eqFields, if_pos hn, Sem.run_bind, ha, hb, he, Result.andThen_ok, Sem.run_ite]
  cases r
  · simp [Sem.run_pure]
  · simp [hq]
theorem eqS_neq {t : TypeId} {x y : Operand} {xs ys : Array Value} {q : Bool} (hg : P.eqGuardType P.depth t = false) (ht : P.underlying t = some (.struct (P.fieldsOf t))) (hp : P.stoodInHeld t = false) (h : (Op.eqFields 9999 xs ys (P.fieldsOf t).toList).run P w = .ok q w) :
    (eqS .neq t x y (.agg xs) (.agg ys)).run P w = .ok (.bool (!q)) w := by
  unfold eqS
  rw [Sem.run_bind, run_eqGuard_agg w _ _ _ _ _ _ hg]
  simp only [Result.andThen_ok]
  rw [run_neq_struct, run_equalIn_agg w 9999 t xs ys ht hp, h]
  rfl
theorem eqS_eql {t : TypeId} {x y : Operand} {xs ys : Array Value} {q : Bool} (hg : P.eqGuardType P.depth t = false) (ht : P.underlying t = some (.struct (P.fieldsOf t))) (hp : P.stoodInHeld t = false) (h : (Op.eqFields 9999 xs ys (P.fieldsOf t).toList).run P w = .ok q w) :
    (eqS .eql t x y (.agg xs) (.agg ys)).run P w = .ok (.bool q) w := by
  unfold eqS
  rw [Sem.run_bind, run_eqGuard_agg w _ _ _ _ _ _ hg]
  simp only [Result.andThen_ok]
  rw [run_eql_struct, run_equalIn_agg w 9999 t xs ys ht hp, h]
  rfl
end
end Go.Proofs.YtlpniinmomhkcaaDoor.V
