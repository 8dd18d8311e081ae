/- Maps from ints to ints. -/
import Derived.Test.YtlpniinmomhkcaaDoorHX
import Derived.MapKept
set_option linter.unusedVariables false
set_option linter.unusedSimpArgs false
namespace Go.Proofs.YtlpniinmomhkcaaDoor.V
open Go Go.Proofs Go.RowKit Go.MapKept

/-- A map of ints, its entries in the order in which they came. -/
def MapAt (w : World) (r : Nat) (ps : List (Int × Int)) : Prop := ∃ (es : Array MapEntry) (clock : Nat), w.heap[r]? = some (.map es clock) ∧ es.toList.map (fun e => (e.key, e.val)) = ps.map (fun p => (Value.int .i64 p.1, Value.int .i64 p.2))
theorem MapAt.ext {w w' : World} {r : Nat} {ps : List (Int × Int)} (h : MapAt w r ps) (he : Ext w w') : MapAt w' r ps := by
  obtain ⟨es, c, hb, h1⟩ := h
  exact ⟨es, c, he.heap hb, h1⟩
theorem MapAt.lt {w : World} {r : Nat} {ps : List (Int × Int)} (h : MapAt w r ps) : r < w.heap.size := by
  obtain ⟨es, c, hb, h1⟩ := h
  exact (Array.getElem?_eq_some_iff.1 hb).1
section
variable {P : Program} {t kt et : TypeId}
theorem makeMap_m {w : World} {K : Value → WP} (hK : ∀ w', MapAt w' w.heap.size [] → Ext w w' → w'.heap.size = w.heap.size + 1 → K (.map (some w.heap.size)) w') : runW P (Instr.makeMap t none) .any K w := by
  refine ⟨.map (some w.heap.size), w.alloc (.map #[] 0), ?_, hK _ ⟨#[], 0, (heap_alloc w _).1, rfl⟩ ((Ext.refl w).alloc _) (by show (w.heap.push _).size = _; simp)⟩
  simp [Instr.makeMap, Result.andThen, Lf.val]
theorem keys_m {es : Array MapEntry} {ps : List (Int × Int)} (h : es.toList.map (fun e => (e.key, e.val)) = ps.map (fun p => (Value.int .i64 p.1, Value.int .i64 p.2))) : ∀ x ∈ es.toList, ∃ p ∈ ps, x.key = .int .i64 p.1 ∧ x.val = .int .i64 p.2 := by
  intro x hx
  have : (x.key, x.val) ∈ es.toList.map (fun e => (e.key, e.val)) := List.mem_map.2 ⟨x, hx, rfl⟩
  rw [h] at this
  obtain ⟨p, hp, e⟩ := List.mem_map.1 this
  injection e with e1 e2
  exact ⟨p, hp, e1.symm, e2.symm⟩
theorem isKey_m {es : Array MapEntry} {ps : List (Int × Int)} (h : es.toList.map (fun e => (e.key, e.val)) = ps.map (fun p => (Value.int .i64 p.1, Value.int .i64 p.2))) : ∀ x ∈ es.toList, IsKey (.int .i64) x.key := by
  intro x hx
  obtain ⟨p, _, e, _⟩ := keys_m h x hx
  rw [e]
  simp [IsKey]
theorem lookup_m {w : World} {r : Nat} {ps : List (Int × Int)} {k : Int} {K : Int × Bool × Unit → WP} (hm : P.underlying t = some (.map kt et)) (hk : P.underlying kt = some (.int .i64)) (hz : (zeroValue et).run P w = .ok (.int .i64 0) w)
    (h : MapAt w r ps) (hK1 : ∀ v, (k, v) ∈ ps → K (v, true, ()) w) (hK0 : (∀ p ∈ ps, p.1 ≠ k) → K (0, false, ()) w) : runRW P (Instr.lookup t (.map (some r)) (.int .i64 k) true) (.many [(.one (.int .i64)), (.one .bool)]) K w := by
  obtain ⟨es, c, hb, h1⟩ := h
  have hik : IsKey (.int .i64) (.int .i64 k) := by simp [IsKey]
  have hck := run_checkKey (w := w) hk hik es.isEmpty 9999
  rcases findNow_spec hik es.toList 0 (isKey_m h1) with ⟨hn, hno⟩ | ⟨j, e, hn, hj, he⟩
  · have hf := run_findKey (w := w) hk hn
    refine ⟨(0, false, ()), w, ?_, hK0 (fun p hp e => ?_)⟩
    · simp only [Instr.lookup, Sem.run_bind, run_underlying hm, Result.andThen, Go.MapKept.run_getObj_map hb]
      simp [hck, hf, hz, Result.andThen]
      rfl
    · have : (Value.int .i64 p.1, Value.int .i64 p.2) ∈ es.toList.map (fun e => (e.key, e.val)) := by rw [h1]; exact List.mem_map.2 ⟨p, hp, rfl⟩
      obtain ⟨x, hx, ex⟩ := List.mem_map.1 this
      injection ex with e1 _
      exact hno x hx (by rw [e1, e])
  · have hf := run_findKey (w := w) hk hn
    obtain ⟨p, hp, e1, e2⟩ := keys_m h1 e (List.mem_of_getElem? hj)
    have hpk : p.1 = k := by
      rw [he] at e1
      injection e1 with _ e1
      exact e1.symm
    refine ⟨(p.2, true, ()), w, ?_, hK1 p.2 (by rw [← hpk]; exact hp)⟩
    simp only [Instr.lookup, Sem.run_bind, run_underlying hm, Result.andThen, Go.MapKept.run_getObj_map hb]
    simp [hck, hf, e2, Result.andThen]
    rfl
theorem mapUpdate_m {w : World} {r : Nat} {ps : List (Int × Int)} {k v : Int} {K : WP} (hm : P.underlying t = some (.map kt et)) (hk : P.underlying kt = some (.int .i64)) (h : MapAt w r ps) (hno : ∀ p ∈ ps, p.1 ≠ k)
    (hK : ∀ w', MapAt w' r (ps ++ [(k, v)]) → w.grownBy w' (some r) → K w') : runUW P (Instr.mapUpdate t (.map (some r)) (.int .i64 k) (.int .i64 v)) K w := by
  obtain ⟨es, c, hb, h1⟩ := h
  have hik : IsKey (.int .i64) (.int .i64 k) := by simp [IsKey]
  have hck := run_checkKey (w := w) hk hik false 9999
  rcases findNow_spec hik es.toList 0 (isKey_m h1) with ⟨hn, hno'⟩ | ⟨j, e, hn, hj, he⟩
  · have hf := run_findKey (w := w) hk hn
    have hset := run_setObj_map (P := P) (.map (es.push { key := .int .i64 k, val := .int .i64 v, born := c }) (c + 1)) hb
    refine ⟨{ w with heap := w.heap.setIfInBounds r (.map (es.push { key := .int .i64 k, val := .int .i64 v, born := c }) (c + 1)) }, ?_, hK _ ⟨_, _, (heap_set hb).1, ?_⟩ ⟨rfl, rfl, rfl, by simp, fun j _ hne => (heap_set hb).2 j (fun e => hne (by rw [e]))⟩⟩
    · simp only [Instr.mapUpdate, Sem.run_bind, run_underlying hm, Result.andThen, Go.MapKept.run_getObj_map hb]
      simp [hck, hf, hset, Result.andThen]
    · simp [h1]
  · exfalso
    obtain ⟨p, hp, e1, e2⟩ := keys_m h1 e (List.mem_of_getElem? hj)
    rw [he] at e1
    injection e1 with _ e1
    exact hno p hp e1.symm
end
end Go.Proofs.YtlpniinmomhkcaaDoor.V
