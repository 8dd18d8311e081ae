/- Maps from ints to empty structs: sets of ints. -/
import Derived.Test.YtpbjbhcejgnhiaaDoorHX
import Derived.MapKept
set_option linter.unusedVariables false
set_option linter.unusedSimpArgs false
namespace Go.Proofs.YtpbjbhcejgnhiaaDoor.V
open Go Go.Proofs Go.RowKit Go.MapKept

/-- A set of ints. -/
def SetAt (w : World) (r : Nat) (ks : List Int) : Prop := ∃ (es : Array MapEntry) (clock : Nat), w.heap[r]? = some (.map es clock) ∧ es.toList.map (·.key) = ks.map (fun k => Value.int .i64 k) ∧ ∀ e ∈ es.toList, e.val = .agg #[]
theorem SetAt.ext {w w' : World} {r : Nat} {ks : List Int} (h : SetAt w r ks) (he : Ext w w') : SetAt w' r ks := by
  obtain ⟨es, c, hb, h1, h2⟩ := h
  exact ⟨es, c, he.heap hb, h1, h2⟩
theorem SetAt.grown {w w' : World} {r : Nat} {ks : List Int} {row : Option Nat} (h : SetAt w r ks) (hg : w.grownBy w' row) (hr : some r ≠ row) : SetAt w' r ks := by
  obtain ⟨es, c, hb, h1, h2⟩ := h
  exact ⟨es, c, (hg.block r (Array.getElem?_eq_some_iff.1 hb).1 hr).trans hb, h1, h2⟩
theorem SetAt.lt {w : World} {r : Nat} {ks : List Int} (h : SetAt w r ks) : r < w.heap.size := by
  obtain ⟨es, c, hb, h1, h2⟩ := h
  exact (Array.getElem?_eq_some_iff.1 hb).1
section
variable {P : Program} {t kt et : TypeId}
theorem makeMap_i {w : World} {K : Value → WP} (hK : ∀ w', SetAt w' w.heap.size [] → Ext w w' → w'.heap.size = w.heap.size + 1 → K (.map (some w.heap.size)) w') : runW P (Instr.makeMap t none) .any K w := by
  refine ⟨.map (some w.heap.size), w.alloc (.map #[] 0), ?_, hK _ ⟨#[], 0, (heap_alloc w _).1, rfl, by simp⟩ ((Ext.refl w).alloc _) (by show (w.heap.push _).size = _; simp)⟩
  simp [Instr.makeMap, Result.andThen, Lf.val]
theorem keys_of {es : Array MapEntry} {ks : List Int} (h : es.toList.map (·.key) = ks.map (fun k => Value.int .i64 k)) : ∀ x ∈ es.toList, IsKey (.int .i64) x.key := by
  intro x hx
  have : x.key ∈ es.toList.map (·.key) := List.mem_map.2 ⟨x, hx, rfl⟩
  rw [h] at this
  obtain ⟨k, _, e⟩ := List.mem_map.1 this
  rw [← e]
  simp [IsKey]
theorem lookup_i {w : World} {r : Nat} {ks : List Int} {k : Int} {K : Unit × Bool × Unit → WP} (hm : P.underlying t = some (.map kt et)) (hk : P.underlying kt = some (.int .i64)) (hz : (zeroValue et).run P w = .ok (.agg #[]) w)
    (h : SetAt w r ks) (hK : K ((), decide (k ∈ ks), ()) w) : runRW P (Instr.lookup t (.map (some r)) (.int .i64 k) true) (.many [(.agg []), (.one .bool)]) K w := by
  obtain ⟨es, c, hb, h1, h2⟩ := h
  have hik : IsKey (.int .i64) (.int .i64 k) := by simp [IsKey]
  refine ⟨((), decide (k ∈ ks), ()), w, ?_, hK⟩
  have hck := run_checkKey (w := w) hk hik es.isEmpty 9999
  rcases findNow_spec hik es.toList 0 (keys_of h1) with ⟨hn, hno⟩ | ⟨j, e, hn, hj, he⟩
  · have hf := run_findKey (w := w) hk hn
    have hnot : k ∉ ks := by
      intro hmem
      have : Value.int .i64 k ∈ es.toList.map (·.key) := by rw [h1]; exact List.mem_map.2 ⟨k, hmem, rfl⟩
      obtain ⟨x, hx, e⟩ := List.mem_map.1 this
      exact hno x hx e
    rw [decide_eq_false hnot]
    simp only [Instr.lookup, Sem.run_bind, run_underlying hm, Result.andThen, Go.MapKept.run_getObj_map hb]
    simp [hck, hf, hz, Result.andThen]
    rfl
  · have hf := run_findKey (w := w) hk hn
    have hmem : k ∈ ks := by
      have : e.key ∈ es.toList.map (·.key) := List.mem_map.2 ⟨e, List.mem_of_getElem? hj, rfl⟩
      rw [h1, he] at this
      obtain ⟨k', hk', e'⟩ := List.mem_map.1 this
      injection e' with _ e'
      rw [← e']; exact hk'
    rw [decide_eq_true hmem]
    have hv := h2 e (List.mem_of_getElem? hj)
    simp only [Instr.lookup, Sem.run_bind, run_underlying hm, Result.andThen, Go.MapKept.run_getObj_map hb]
    simp [hck, hf, hv, Result.andThen]
    rfl
theorem mapUpdate_i {w : World} {r : Nat} {ks : List Int} {k : Int} {K : WP} (hm : P.underlying t = some (.map kt et)) (hk : P.underlying kt = some (.int .i64)) (h : SetAt w r ks) (hno : k ∉ ks)
    (hK : ∀ w', SetAt w' r (ks ++ [k]) → w.grownBy w' (some r) → K w') : runUW P (Instr.mapUpdate t (.map (some r)) (.int .i64 k) (.agg #[])) K w := by
  obtain ⟨es, c, hb, h1, h2⟩ := h
  have hik : IsKey (.int .i64) (.int .i64 k) := by simp [IsKey]
  have hck := run_checkKey (w := w) hk hik false 9999
  rcases findNow_spec hik es.toList 0 (keys_of h1) with ⟨hn, hno'⟩ | ⟨j, e, hn, hj, he⟩
  · have hf := run_findKey (w := w) hk hn
    have hset := run_setObj_map (P := P) (.map (es.push { key := .int .i64 k, val := .agg #[], born := c }) (c + 1)) hb
    refine ⟨{ w with heap := w.heap.setIfInBounds r (.map (es.push { key := .int .i64 k, val := .agg #[], born := c }) (c + 1)) }, ?_, hK _ ⟨_, _, (heap_set hb).1, ?_, ?_⟩ ⟨rfl, rfl, rfl, by simp, fun j _ hne => (heap_set hb).2 j (fun e => hne (by rw [e]))⟩⟩
    · simp only [Instr.mapUpdate, Sem.run_bind, run_underlying hm, Result.andThen, Go.MapKept.run_getObj_map hb]
      simp [hck, hf, hset, Result.andThen]
    · simp [h1]
    · intro e he
      simp only [Array.toList_push, List.mem_append, List.mem_singleton] at he
      rcases he with he | rfl
      · exact h2 e he
      · rfl
  · exfalso
    have : e.key ∈ es.toList.map (·.key) := List.mem_map.2 ⟨e, List.mem_of_getElem? hj, rfl⟩
    rw [h1, he] at this
    obtain ⟨k', hk', e'⟩ := List.mem_map.1 this
    injection e' with _ e'
    exact hno (by rw [← e']; exact hk')
end
end Go.Proofs.YtpbjbhcejgnhiaaDoor.V
