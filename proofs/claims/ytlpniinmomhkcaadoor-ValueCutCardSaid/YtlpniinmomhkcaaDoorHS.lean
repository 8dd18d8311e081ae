/- Slices of strings and of whole numbers; bytes of a string; deferred calls, left. -/
import Derived.Test.YtlpniinmomhkcaaDoorHR
import Derived.Lib.ConvBytes
import Derived.RangeFuncRecord
set_option linter.unusedVariables false
set_option linter.unusedSimpArgs false
namespace Go.Proofs.YtlpniinmomhkcaaDoor.V
open Go Go.RowKit

def strE : Enc ByteArray where
  k := 1
  f s := [.string s]
  len _ := rfl
  one _ := by
    intro v hv
    simp only [List.mem_singleton] at hv
    subst hv
    rfl
  pos := by omega
/-- Numbers of a kind, as a slice's elements. -/
def numE (k : IntKind) : Enc Nat where
  k := 1
  f n := [.int k (n : Int)]
  len _ := rfl
  one _ := by
    intro v hv
    simp only [List.mem_singleton] at hv
    subst hv
    rfl
  pos := by omega
theorem idx_str {w : World} {A : Option Addr} {n : Nat} {xs : List ByteArray} {i : Int} {K : ByteArray → WP} (h : Sli strE w A n xs) (h0 : 0 ≤ i) (h1 : i < (n : Int)) (hK : K (xs.getD i.toNat ByteArray.empty) w) :
    (guardW (0 ≤ i ∧ i < ((n : Nat) : Int)) <| ptrW A fun p => ldW .str (p.add (Int.toNat i * 1)) K) w := by
  have hi : i.toNat < xs.length := by have := h.1; omega
  refine idx_el h h0 (x := xs.getD i.toNat ByteArray.empty) (by simp [hi]) rfl ?_
  intro p hp hcell
  exact ld_i (by have := hcell.1; rw [add_zero] at this; exact this) hK
theorem idx_num {w : World} {A : Option Addr} {n : Nat} {k : IntKind} {xs : List Nat} {i : Int} {K : Int → WP} (h : Sli (numE k) w A n xs) (h0 : 0 ≤ i) (h1 : i < (n : Int)) (hK : K ((xs.getD i.toNat 0 : Nat) : Int) w) :
    (guardW (0 ≤ i ∧ i < ((n : Nat) : Int)) <| ptrW A fun p => ldW (.int k) (p.add (Int.toNat i * 1)) K) w := by
  have hi : i.toNat < xs.length := by have := h.1; omega
  refine idx_el h h0 (x := xs.getD i.toNat 0) (by simp [hi]) rfl ?_
  intro p hp hcell
  exact ld_i (by have := hcell.1; rw [add_zero] at this; exact this) hK
section
variable {P : Program} {src dst e : TypeId}
/-- []byte(s) -/
theorem conv_bytes {w : World} {s : ByteArray} {u : TypeDesc} {K : (Option Addr × Nat × Nat) → WP} (hs : P.underlying src = some u) (hd : P.underlying dst = some (.slice e)) (he : P.underlying e = some (.int .u8)) (hm : s.size ≤ 9223372036854775807)
    (hK : ∀ c w', Sl w' (some ⟨w.heap.size, 0, none⟩) s.size (bV (B s)) → Ext w w' → w'.heap.size = w.heap.size + 1 → s.size ≤ c → K (some ⟨w.heap.size, 0, none⟩, s.size, c) w') :
    runW P (convert src dst (.string s)) .slc K w := by
  refine ⟨(some ⟨w.heap.size, 0, none⟩, s.size, _), _, Go.Lib.run_convert_string_bytes w src dst e s hs hd he, hK _ _ ?_ ?_ (Go.Lib.bytesWorld_size w e s) ?_⟩
  · refine ⟨by rw [length_bV, B_size], hm, fun hn => ⟨_, rfl, fun j v hj => ?_⟩⟩
    have hjl : j < s.size := by have := (List.getElem?_eq_some_iff.1 hj).1; rw [length_bV, ← B_size] at this; exact this
    rw [add_mk, Nat.zero_add, Go.Lib.bytesWorld_cell w e s j hjl, ← hj]
    have hjb : j < (B s).length := by rw [← B_size]; exact hjl
    simp only [bV, List.getElem?_map, List.getElem?_eq_getElem hjb, Option.map_some]
    congr 3
    rw [List.getD_eq_getElem?_getD, show s.data.toList = B s from rfl, List.getElem?_eq_getElem hjb]
    rfl
  · exact ⟨rfl, rfl, rfl, by rw [Go.Lib.bytesWorld_size]; omega, fun k hk => Go.Lib.bytesWorld_at_old w e s k hk⟩
  · exact grownCap_ge _ _ _ _
end
/-! ### What was deferred -/
theorem leave_i {P : Program} {r : Nat} {ds : List Deferred} {K : WP} {w : World} (h : w.heap[r]? = some (.deferred (some []))) (hK : leaveW P ds K (setO w r (.deferred none))) : leaveW P (⟨.collected r, #[]⟩ :: ds) K w :=
  ⟨r, _, rfl, run_takeDeferred h, hK⟩
/-- The blocks of what was deferred, from B on: each bears none. -/
def Dfs (B : Nat) (w : World) : List Deferred → Prop
  | [] => True
  | d :: ds => ∃ r, d = ⟨.collected r, #[]⟩ ∧ B ≤ r ∧ w.heap[r]? = some (.deferred (some [])) ∧ (∀ d' ∈ ds, d'.target ≠ .collected r) ∧ Dfs B w ds
/-- Worlds that differ at deferred blocks alone, from B on. -/
def SameDf (B : Nat) (w w' : World) : Prop := w'.os = w.os ∧ w'.tape = w.tape ∧ w'.output = w.output ∧ w'.heap.size = w.heap.size ∧ ∀ k : Nat, k < B ∨ w.heap[k]? ≠ some (Obj.deferred (some [])) → w'.heap[k]? = w.heap[k]?
def KeepD (w w' : World) : Prop := ∀ j : Nat, w.heap[j]? = some (Obj.deferred (some [])) → w'.heap[j]? = some (Obj.deferred (some []))
theorem Dfs.kept {B : Nat} {w w' : World} : ∀ {ds : List Deferred}, Dfs B w ds → (∀ k, w.heap[k]? = some (.deferred (some [])) → (∃ d ∈ ds, d.target = .collected k) → w'.heap[k]? = some (.deferred (some []))) → Dfs B w' ds
  | [], _, _ => trivial
  | d :: ds, ⟨r, h1, hB, h2, h3, h4⟩, hk => ⟨r, h1, hB, hk r h2 ⟨d, List.mem_cons_self, by rw [h1]⟩, h3, Dfs.kept h4 fun k h5 ⟨d', h6, h7⟩ => hk k h5 ⟨d', List.mem_cons_of_mem _ h6, h7⟩⟩
theorem Dfs.lt {B : Nat} {w : World} : ∀ {ds : List Deferred}, Dfs B w ds → ∀ d ∈ ds, ∀ r, d.target = .collected r → r < w.heap.size
  | [], _, d, hd, _, _ => by cases hd
  | d0 :: ds, ⟨r0, h1, _, h2, _, h4⟩, d, hd, r, hr => by
    rcases List.mem_cons.1 hd with rfl | hd
    · subst h1
      injection hr with hr
      subst hr
      exact (Array.getElem?_eq_some_iff.1 h2).1
    · exact Dfs.lt h4 d hd r hr
theorem leave_all {P : Program} {K : WP} {B : Nat} : ∀ (ds : List Deferred) (w : World), Dfs B w ds → (∀ w', SameDf B w w' → K w') → leaveW P ds K w
  | [], w, _, hK => hK w ⟨rfl, rfl, rfl, rfl, fun _ _ => rfl⟩
  | d :: ds, w, ⟨r, h1, hB, h2, h3, h4⟩, hK => by
    subst h1
    refine leave_i h2 (leave_all (B := B) ds _ (Dfs.kept h4 fun k h5 ⟨d', h6, h7⟩ => ?_) fun w' hs => hK w' ?_)
    · rw [setO_other (fun e => h3 d' h6 (by rw [h7, e]))]
      exact h5
    · refine ⟨hs.1, hs.2.1, hs.2.2.1, by rw [hs.2.2.2.1, setO_size], fun k hk => ?_⟩
      have hkr : r ≠ k := fun e => by
        subst e
        rcases hk with hk | hk
        · omega
        · exact hk h2
      rw [hs.2.2.2.2 k (by rw [setO_other hkr]; exact hk), setO_other hkr]
theorem Blk.sameDf {B : Nat} {w w' : World} {b : Nat} {cs : List Value} {t : TypeId} (h : Blk w b cs t) (hs : SameDf B w w') : Blk w' b cs t :=
  (hs.2.2.2.2 b (.inr (by rw [show w.heap[b]? = _ from h]; simp))).trans h
theorem Ext.sameDf {w0 w w' : World} (h : Ext w0 w) (hs : SameDf w0.heap.size w w') : Ext w0 w' :=
  ⟨hs.1.trans h.os, hs.2.1.trans h.tape, hs.2.2.1.trans h.output, by have := h.size; have := hs.2.2.2.1; omega, fun k hk => (hs.2.2.2.2 k (.inl hk)).trans (h.block k hk)⟩
end Go.Proofs.YtlpniinmomhkcaaDoor.V
