/- Ranges over functions: rules. -/
import Derived.Test.YtlpniinmomhkcaaDoorHK
import Derived.Test.YtlpniinmomhkcaaDoorStr
set_option linter.unusedVariables false
set_option linter.unusedSimpArgs false
namespace Go.Proofs.YtlpniinmomhkcaaDoor.V
open Go

/-- What an iterator does: it yields L, one by one, where R (what it reads) holds at each. -/
def Iter (P : Program) (v : Value) (L : List (List Value)) (R : WP) : Prop :=
  ∃ f cap, v = .func (.func f) #[] cap ∧ enterable P f = true ∧ ∀ (l : Nat) (J : Nat → WP) (w : World), J 0 w → (∀ i w', J i w' → R w') → (∀ i w', J i w' → J i w'.drew) →
    (∀ i w' (h : i < L.length), J i w' → YieldAt P l L[i] w' fun v w'' => v = .bool true ∧ J (i + 1) w'') →
    Calls P f (.func (.yield l) #[] #[] :: cap.toList).toArray w (Ret fun _ w' => J L.length w')
/-- Worlds that differ at the loop's own two blocks alone. -/
def SameBut (a b : Nat) (w w' : World) : Prop := w'.os = w.os ∧ w'.tape = w.tape ∧ w'.output = w.output ∧ w'.heap.size = w.heap.size ∧ ∀ k, k ≠ a → k ≠ b → w'.heap[k]? = w.heap[k]?
theorem sameBut_setO {a b l : Nat} {w : World} {o : Obj} (h : l = a ∨ l = b) : SameBut a b w (setO w l o) :=
  ⟨rfl, rfl, rfl, setO_size, fun k h1 h2 => setO_other (by rcases h with rfl | rfl; exact fun e => h1 e.symm; exact fun e => h2 e.symm)⟩
theorem range_i {P : Program} {v : Value} {T : Type} {vals : T → List Value} {Body : T → WP → (Code → WP) → WP} {done : Nat → Option Code → WP} {w : World} {L : List (List Value)} {R : WP} (I : Nat → WP)
    (hit : Iter P v L R) (hR : ∀ i w', I i w' → R w') (hdr : ∀ i w', I i w' → I i w'.drew)
    (hst : ∀ i w' w'', SameBut w.heap.size (w.heap.size + 1) w' w'' → I i w' → I i w'')
    (h0 : ∀ o, I 0 ((w.alloc (.deferred (some []))).alloc o))
    (hbody : ∀ (i : Nat) (hi : i < L.length) (w' : World) (N : WP) (jump : Code → WP), I i w' → w.heap.size + 2 ≤ w'.heap.size → (∀ w'', I (i + 1) w'' → w'.heap.size ≤ w''.heap.size → (∀ k, k = w.heap.size ∨ k = w.heap.size + 1 → w''.heap[k]? = w'.heap[k]?) → N w'') → ∃ t, vals t = L[i] ∧ Body t N jump w')
    (hdone : ∀ w', I L.length w' → w.heap.size + 2 ≤ w'.heap.size → w'.heap[w.heap.size]? = some (.deferred (some [])) → done w.heap.size none w') :
    rangeW P v T vals (fun t begin next jump => begin (Body t next jump)) done w := by
  obtain ⟨f, cap, rfl, hen, hcalls⟩ := hit
  refine ⟨f, cap, rfl, hen, fun rec hY => ?_⟩
  have hlt : ∀ {w' : World} {o : Obj}, w'.heap[w.heap.size + 1]? = some o → w.heap.size + 1 < w'.heap.size := fun h => (Array.getElem?_eq_some_iff.1 h).1
  refine Calls.mono (hcalls (w.heap.size + 1) (fun i w' => I i w' ∧ w'.heap[w.heap.size + 1]? = some (rec .ready none) ∧ w'.heap[w.heap.size]? = some (.deferred (some []))) _ ⟨h0 _, ?_, ?_⟩ (fun i w' h => hR i w' h.1) (fun i w' h => ⟨hdr i w' h.1, h.2.1, h.2.2⟩) ?_) ?_
  · show ((w.heap.push _).push _)[w.heap.size + 1]? = _
    rw [Array.getElem?_push]
    simp
  · show ((w.heap.push _).push _)[w.heap.size]? = _
    rw [Array.getElem?_push, Array.getElem?_push]
    simp
  · rintro i w' hi ⟨hI, hl, hd⟩
    have hI2 := hst i w' _ (sameBut_setO (o := rec .busy none) (.inr rfl)) hI
    obtain ⟨t, ht, hb⟩ := hbody i hi (setO w' (w.heap.size + 1) (rec .busy none)) (fun w2 => w2.heap[w.heap.size + 1]? = some (rec .busy none) ∧ (fun b w'' => b = true ∧ I (i + 1) w'' ∧ w''.heap[w.heap.size + 1]? = some (rec .ready none) ∧ w''.heap[w.heap.size]? = some (.deferred (some []))) true (setO w2 (w.heap.size + 1) (rec .ready none)))
      (fun c w2 => w2.heap[w.heap.size + 1]? = some (rec .busy none) ∧ (fun b w'' => b = true ∧ I (i + 1) w'' ∧ w''.heap[w.heap.size + 1]? = some (rec .ready none) ∧ w''.heap[w.heap.size]? = some (.deferred (some []))) false (setO w2 (w.heap.size + 1) (rec .done (some c)))) hI2 (by rw [setO_size]; have := hlt hl; omega) (fun w'' hI3 hs hk => by
        have h1 := hk (w.heap.size + 1) (.inr rfl)
        rw [setO_same (hlt hl)] at h1
        have h2 := hk w.heap.size (.inl rfl)
        rw [setO_other (by omega), hd] at h2
        exact ⟨h1, rfl, hst _ _ _ (sameBut_setO (.inr rfl)) hI3, setO_same (hlt h1), by rw [setO_other (by omega)]; exact h2⟩)
    have := hY t w' (fun b w'' => b = true ∧ I (i + 1) w'' ∧ w''.heap[w.heap.size + 1]? = some (rec .ready none) ∧ w''.heap[w.heap.size]? = some (.deferred (some []))) hl ⟨hl, hb⟩
    rw [ht] at this
    obtain ⟨fn, tmps, as, bd, h1, h2⟩ := this
    refine ⟨fn, tmps, as, bd, h1, RoundIn.mono h2 ?_⟩
    rintro (v | c | _) w2 he
    · obtain ⟨b, rfl, rfl, hh⟩ := he
      exact ⟨rfl, hh⟩
    · exact he
    · exact he
  · rintro (v | c | _) w3 he
    · obtain ⟨hI, hl, hd⟩ := he
      refine ⟨.ready, none, by simp, hl, hdone _ (hst _ _ _ (sameBut_setO (.inr rfl)) hI) (by rw [setO_size]; have := hlt hl; omega) ?_⟩
      rw [setO_other (by omega)]
      exact hd
    · exact he
    · exact he
end Go.Proofs.YtlpniinmomhkcaaDoor.V
