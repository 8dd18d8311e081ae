/- What loops over functions leave as it was. -/
import Derived.Test.YtpbjbhcejgnhiaaDoorHR2
import Derived.Test.YtpbjbhcejgnhiaaDoorHS
import Derived.Test.YtpbjbhcejgnhiaaDoorHX
set_option linter.unusedVariables false
set_option linter.unusedSimpArgs false
namespace Go.Proofs.YtpbjbhcejgnhiaaDoor.V
open Go

theorem SameBut.ext {a : Nat} {w0 w w' : World} (h : SameBut a (a + 1) w w') (he : Ext w0 w) (ha : w0.heap.size ≤ a) : Ext w0 w' := by
  obtain ⟨h1, h2, h3, h4, h5⟩ := h
  exact ⟨h1.trans he.os, h2.trans he.tape, h3.trans he.output, by have := he.size; omega, fun k hk => (h5 k (by omega) (by omega)).trans (he.block k hk)⟩
theorem SameBut.blk {a r : Nat} {w w' : World} {cs : List Value} {t : TypeId} (h : SameBut a (a + 1) w w') (hb : Blk w r cs t) (hr : r < a) : Blk w' r cs t :=
  (h.2.2.2.2 r (by omega) (by omega)).trans hb
theorem SameBut.size {a b : Nat} {w w' : World} (h : SameBut a b w w') : w'.heap.size = w.heap.size := h.2.2.2.1
theorem Blk.at_ {w w' : World} {r : Nat} {cs : List Value} {t : TypeId} (hb : Blk w r cs t) (h : w'.heap[r]? = w.heap[r]?) : Blk w' r cs t := h.trans hb
/-- A range whose body opens with the loop's own mark. -/
theorem rangeS_i {P : Program} {v : Value} {T : Type} {vals : T → List Value} {Body : T → WP → (Code → WP) → WP} {done : Nat → Option Code → WP} {w : World} {L : List (List Value)} {R : Nat → WP} {Tr : Nat → World → World} (I : Nat → WP) (D : Code → WP) (tv : Nat → T) (htv : ∀ i (hi : i < L.length), vals (tv i) = L[i])
    (hit : IterT P v L R Tr) (hR : ∀ i w', I i w' → R i w') (hdr : ∀ i w', I i w' → I i w'.drew)
    (hst : ∀ i w' w'', SameBut w.heap.size (w.heap.size + 1) w' w'' → I i w' → I i w'')
    (hRst : ∀ i w' w'', SameBut w.heap.size (w.heap.size + 1) w' w'' → R i w' → R i w'')
    (hDst : ∀ c w' w'', SameBut w.heap.size (w.heap.size + 1) w' w'' → D c w' → D c w'')
    (hT : ∀ i w' w'', SameBut w.heap.size (w.heap.size + 1) w' w'' → SameBut w.heap.size (w.heap.size + 1) (Tr i w') (Tr i w''))
    (hTk : ∀ i w' (k : Nat), w.heap.size ≤ k → (Tr i w').heap[k]? = w'.heap[k]?)
    (h0 : ∀ o, I 0 ((w.alloc (.deferred (some []))).alloc o))
    (hbody : ∀ (i : Nat) (hi : i < L.length) (w' : World) (N : WP) (jump : Code → WP), I i w' → w.heap.size + 2 ≤ w'.heap.size →
        (∀ w'', R i w'' ∧ I (i + 1) (Tr i w'') → w'.heap.size ≤ w''.heap.size → (∀ k, k = w.heap.size ∨ k = w.heap.size + 1 → w''.heap[k]? = w'.heap[k]?) → N w'') →
        (∀ c w'', D c w'' → w'.heap.size ≤ w''.heap.size → (∀ k, k = w.heap.size ∨ k = w.heap.size + 1 → w''.heap[k]? = w'.heap[k]?) → jump c w'') →
      Body (tv i) N jump w')
    (hdone : ∀ w', I L.length w' → w.heap.size + 2 ≤ w'.heap.size → w'.heap[w.heap.size]? = some (.deferred (some [])) → done w.heap.size none w')
    (hjump : ∀ c w', D c w' → w.heap.size + 2 ≤ w'.heap.size → w'.heap[w.heap.size]? = some (.deferred (some [])) → done w.heap.size (some c) w') :
    rangeW P v T vals (fun t begin next jump => begin (Body t next jump)) done w := by
  refine rangeT_i I D tv htv hit hR hdr hst hRst hDst hT hTk h0 ?_ hdone hjump
  intro i hi w' G N jump hI hs hG
  exact hG _ w' hI (Nat.le_refl _) (fun _ _ => rfl) fun w2 hI2 hsz hk hN hJ => hbody i hi w2 N jump hI2 (by omega) hN hJ
end Go.Proofs.YtpbjbhcejgnhiaaDoor.V
