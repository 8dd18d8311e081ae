/- Ranges over functions that may be left early; iterators with a state of their own; what loops over functions leave as it was. -/
import Derived.Test.YtpbjbhcejgnhiaaDoorHR
import Derived.Test.YtpbjbhcejgnhiaaDoorHS
import Derived.Test.YtpbjbhcejgnhiaaDoorHX
set_option linter.unusedVariables false
set_option linter.unusedSimpArgs false
namespace Go.Proofs.YtpbjbhcejgnhiaaDoor.V
open Go

/-- What an iterator does: it yields L, one by one; R i is what it reads at the i-th, T i what it does behind the i-th. Where yield tells false it ends. -/
def IterT (P : Program) (v : Value) (L : List (List Value)) (R : Nat → WP) (T : Nat → World → World) : Prop :=
  ∃ f cap, v = .func (.func f) #[] cap ∧ enterable P f = true ∧ ∀ (l : Nat) (J : Nat → WP) (E : WP) (w : World), J 0 w → (∀ i w', J i w' → R i w') → (∀ i w', J i w' → J i w'.drew) →
    (∀ i w' (h : i < L.length), J i w' → YieldAt P l L[i] w' fun v w'' => (v = .bool true ∧ R i w'' ∧ J (i + 1) (T i w'')) ∨ (v = .bool false ∧ E w'')) →
    Calls P f (.func (.yield l) #[] #[] :: cap.toList).toArray w (Ret fun _ w' => J L.length w' ∨ E w')
theorem rangeT_i {P : Program} {v : Value} {T : Type} {vals : T → List Value} {Body : T → (WP → WP) → WP → (Code → WP) → WP} {done : Nat → Option Code → WP} {w : World} {L : List (List Value)} {R : Nat → WP} {Tr : Nat → World → World} (I : Nat → WP) (D : Code → WP) (tv : Nat → T) (htv : ∀ i (hi : i < L.length), vals (tv i) = L[i])
    (hit : IterT P v L R Tr) (hR : ∀ i w', I i w' → R i w') (hdr : ∀ i w', I i w' → I i w'.drew)
    (hst : ∀ i w' w'', SameBut w.heap.size (w.heap.size + 1) w' w'' → I i w' → I i w'')
    (hRst : ∀ i w' w'', SameBut w.heap.size (w.heap.size + 1) w' w'' → R i w' → R i w'')
    (hDst : ∀ c w' w'', SameBut w.heap.size (w.heap.size + 1) w' w'' → D c w' → D c w'')
    (hT : ∀ i w' w'', SameBut w.heap.size (w.heap.size + 1) w' w'' → SameBut w.heap.size (w.heap.size + 1) (Tr i w') (Tr i w''))
    (hTk : ∀ i w' (k : Nat), w.heap.size ≤ k → (Tr i w').heap[k]? = w'.heap[k]?)
    (h0 : ∀ o, I 0 ((w.alloc (.deferred (some []))).alloc o))
    (hbody : ∀ (i : Nat) (hi : i < L.length) (w' : World) (G : WP → WP) (N : WP) (jump : Code → WP), I i w' → w.heap.size + 2 ≤ w'.heap.size → 
      (∀ (K : WP) w1, I i w1 → w'.heap.size ≤ w1.heap.size → (∀ k, k = w.heap.size ∨ k = w.heap.size + 1 → w1.heap[k]? = w'.heap[k]?) → (∀ w2, I i w2 → w1.heap.size = w2.heap.size → (∀ k : Nat, k ≠ w.heap.size → k ≠ w.heap.size + 1 → w2.heap[k]? = w1.heap[k]?) →
        (∀ w'', R i w'' ∧ I (i + 1) (Tr i w'') → w2.heap.size ≤ w''.heap.size → (∀ k, k = w.heap.size ∨ k = w.heap.size + 1 → w''.heap[k]? = w2.heap[k]?) → N w'') →
        (∀ c w'', D c w'' → w2.heap.size ≤ w''.heap.size → (∀ k, k = w.heap.size ∨ k = w.heap.size + 1 → w''.heap[k]? = w2.heap[k]?) → jump c w'') → K w2) → G K w1) →
      Body (tv i) G N jump w')
    (hdone : ∀ w', I L.length w' → w.heap.size + 2 ≤ w'.heap.size → w'.heap[w.heap.size]? = some (.deferred (some [])) → done w.heap.size none w')
    (hjump : ∀ c w', D c w' → w.heap.size + 2 ≤ w'.heap.size → w'.heap[w.heap.size]? = some (.deferred (some [])) → done w.heap.size (some c) w') :
    rangeW P v T vals Body done w := by
  obtain ⟨f, cap, rfl, hen, hcalls⟩ := hit
  refine ⟨f, cap, rfl, hen, fun rec hY => ?_⟩
  have hlt : ∀ {w' : World} {o : Obj}, w'.heap[w.heap.size + 1]? = some o → w.heap.size + 1 < w'.heap.size := fun h => (Array.getElem?_eq_some_iff.1 h).1
  refine Calls.mono (hcalls (w.heap.size + 1) (fun i w' => I i w' ∧ w'.heap[w.heap.size + 1]? = some (rec .ready none) ∧ w'.heap[w.heap.size]? = some (.deferred (some [])))
    (fun w' => ∃ c, D c w' ∧ w'.heap[w.heap.size + 1]? = some (rec .done (some c)) ∧ w'.heap[w.heap.size]? = some (.deferred (some []))) _ ⟨h0 _, ?_, ?_⟩ (fun i w' h => hR i w' h.1) (fun i w' h => ⟨hdr i w' h.1, h.2.1, h.2.2⟩) ?_) ?_
  · show ((w.heap.push _).push _)[w.heap.size + 1]? = _
    rw [Array.getElem?_push]
    simp
  · show ((w.heap.push _).push _)[w.heap.size]? = _
    rw [Array.getElem?_push, Array.getElem?_push]
    simp
  · rintro i w' hi ⟨hI, hl, hd⟩
    let Q : Bool → WP := fun b w'' => (b = true ∧ R i w'' ∧ I (i + 1) (Tr i w'') ∧ w''.heap[w.heap.size + 1]? = some (rec .ready none) ∧ w''.heap[w.heap.size]? = some (.deferred (some [])))
      ∨ (b = false ∧ ∃ c, D c w'' ∧ w''.heap[w.heap.size + 1]? = some (rec .done (some c)) ∧ w''.heap[w.heap.size]? = some (.deferred (some [])))
    have hb := hbody i hi w' (fun K w1 => w1.heap[w.heap.size + 1]? = some (rec .ready none) ∧ K (setO w1 (w.heap.size + 1) (rec .busy none)))
      (fun w2 => w2.heap[w.heap.size + 1]? = some (rec .busy none) ∧ Q true (setO w2 (w.heap.size + 1) (rec .ready none)))
      (fun c w2 => w2.heap[w.heap.size + 1]? = some (rec .busy none) ∧ Q false (setO w2 (w.heap.size + 1) (rec .done (some c)))) hI (by have := hlt hl; omega)
      (fun K w1 hI1 hs1 hk1 hG => by
        have hl1 := hk1 (w.heap.size + 1) (.inr rfl)
        rw [hl] at hl1
        have hd1 := hk1 w.heap.size (.inl rfl)
        rw [hd] at hd1
        refine ⟨hl1, hG _ (hst i w1 _ (sameBut_setO (o := rec .busy none) (.inr rfl)) hI1) (by rw [setO_size]) (fun k h1 h2 => setO_other (fun e => h2 e.symm)) ?_ ?_⟩
        · intro w'' hI3 hs hk
          have h1 := hk (w.heap.size + 1) (.inr rfl)
          rw [setO_same (hlt hl1)] at h1
          have h2 := hk w.heap.size (.inl rfl)
          rw [setO_other (by omega), hd1] at h2
          refine ⟨h1, .inl ⟨rfl, hRst _ _ _ (sameBut_setO (.inr rfl)) hI3.1, hst _ _ _ (hT i _ _ (sameBut_setO (.inr rfl))) hI3.2, setO_same (hlt h1), ?_⟩⟩
          rw [setO_other (by omega)]; exact h2
        · intro c w'' hD hs hk
          have h1 := hk (w.heap.size + 1) (.inr rfl)
          rw [setO_same (hlt hl1)] at h1
          have h2 := hk w.heap.size (.inl rfl)
          rw [setO_other (by omega), hd1] at h2
          refine ⟨h1, .inr ⟨rfl, c, hDst _ _ _ (sameBut_setO (.inr rfl)) hD, setO_same (hlt h1), ?_⟩⟩
          rw [setO_other (by omega)]; exact h2)
    have := hY (tv i) w' Q hl hb
    rw [htv i hi] at this
    obtain ⟨fn, tmps, as, bd, h1, h2⟩ := this
    refine ⟨fn, tmps, as, bd, h1, RoundIn.mono h2 ?_⟩
    rintro (v | c | _) w2 he
    · obtain ⟨b, rfl, ⟨rfl, hh1, hh2, hh3, hh4⟩ | ⟨rfl, hh⟩⟩ := he
      · exact .inl ⟨rfl, hh1, hh2, by rw [hTk i _ _ (by omega)]; exact hh3, by rw [hTk i _ _ (by omega)]; exact hh4⟩
      · exact .inr ⟨rfl, hh⟩
    · exact he
    · exact he
  · rintro (v | c | _) w3 he
    · rcases he with ⟨hI, hl, hd⟩ | ⟨c, hD, hl, hd⟩
      · refine ⟨.ready, none, by simp, hl, hdone _ (hst _ _ _ (sameBut_setO (.inr rfl)) hI) (by rw [setO_size]; have := hlt hl; omega) ?_⟩
        rw [setO_other (by omega)]
        exact hd
      · refine ⟨.done, some c, by simp, hl, hjump c _ (hDst _ _ _ (sameBut_setO (.inr rfl)) hD) (by rw [setO_size]; have := hlt hl; omega) ?_⟩
        rw [setO_other (by omega)]
        exact hd
    · exact he
    · exact he
/-- An iterator without a state of its own. -/
def Iter2 (P : Program) (v : Value) (L : List (List Value)) (R : WP) : Prop := IterT P v L (fun _ => R) (fun _ w => w)

theorem SameBut.ext {a : Nat} {w0 w w' : World} (h : SameBut a (a + 1) w w') (he : Ext w0 w) (ha : w0.heap.size ≤ a) : Ext w0 w' := by
  obtain ⟨h1, h2, h3, h4, h5⟩ := h
  exact ⟨h1.trans he.os, h2.trans he.tape, h3.trans he.output, by have := he.size; omega, fun k hk => (h5 k (by omega) (by omega)).trans (he.block k hk)⟩
theorem SameBut.blk {a r : Nat} {w w' : World} {cs : List Value} {t : TypeId} (h : SameBut a (a + 1) w w') (hb : Blk w r cs t) (hr : r < a) : Blk w' r cs t :=
  (h.2.2.2.2 r (by omega) (by omega)).trans hb
theorem SameBut.size {a b : Nat} {w w' : World} (h : SameBut a b w w') : w'.heap.size = w.heap.size := h.2.2.2.1
theorem Blk.at_ {w w' : World} {r : Nat} {cs : List Value} {t : TypeId} (hb : Blk w r cs t) (h : w'.heap[r]? = w.heap[r]?) : Blk w' r cs t := h.trans hb
/-- A range whose body opens with the loop's own mark. -/
theorem rangeS_i {P : Program} {v : Value} {T : Type} {vals : T → List Value} {Body : T → WP → (Code → WP) → WP} {done : Nat → Option Code → WP} {w : World} {L : List (List Value)} {R : Nat → WP} {Tr : Nat → World → World} (I : Nat → WP) (D : Code → WP) (tv : Nat → T) (htv : ∀ i (hi : i < L.length), vals (tv i) = L[i])
    (hit : IterT P v L R Tr) (hR : ∀ i w', I i w' → R i w') (hdr : ∀ i w', I i w' → I i w'.drew)
    (hst : ∀ i w' w'', SameBut w.heap.size (w.heap.size + 1) w' w'' → I i w' → I i w'')
    (hRst : ∀ i w' w'', SameBut w.heap.size (w.heap.size + 1) w' w'' → R i w' → R i w'')
    (hDst : ∀ c w' w'', SameBut w.heap.size (w.heap.size + 1) w' w'' → D c w' → D c w'')
    (hT : ∀ i w' w'', SameBut w.heap.size (w.heap.size + 1) w' w'' → SameBut w.heap.size (w.heap.size + 1) (Tr i w') (Tr i w''))
    (hTk : ∀ i w' (k : Nat), w.heap.size ≤ k → (Tr i w').heap[k]? = w'.heap[k]?)
    (h0 : ∀ o, I 0 ((w.alloc (.deferred (some []))).alloc o))
    (hbody : ∀ (i : Nat) (hi : i < L.length) (w' : World) (N : WP) (jump : Code → WP), I i w' → w.heap.size + 2 ≤ w'.heap.size →
        (∀ w'', R i w'' ∧ I (i + 1) (Tr i w'') → w'.heap.size ≤ w''.heap.size → (∀ k, k = w.heap.size ∨ k = w.heap.size + 1 → w''.heap[k]? = w'.heap[k]?) → N w'') →
        (∀ c w'', D c w'' → w'.heap.size ≤ w''.heap.size → (∀ k, k = w.heap.size ∨ k = w.heap.size + 1 → w''.heap[k]? = w'.heap[k]?) → jump c w'') →
      Body (tv i) N jump w')
    (hdone : ∀ w', I L.length w' → w.heap.size + 2 ≤ w'.heap.size → w'.heap[w.heap.size]? = some (.deferred (some [])) → done w.heap.size none w')
    (hjump : ∀ c w', D c w' → w.heap.size + 2 ≤ w'.heap.size → w'.heap[w.heap.size]? = some (.deferred (some [])) → done w.heap.size (some c) w') :
    rangeW P v T vals (fun t begin next jump => begin (Body t next jump)) done w := by
  refine rangeT_i I D tv htv hit hR hdr hst hRst hDst hT hTk h0 ?_ hdone hjump
  intro i hi w' G N jump hI hs hG
  exact hG _ w' hI (Nat.le_refl _) (fun _ _ => rfl) fun w2 hI2 hsz hk hN hJ => hbody i hi w2 N jump hI2 (by omega) hN hJ
end Go.Proofs.YtpbjbhcejgnhiaaDoor.V
