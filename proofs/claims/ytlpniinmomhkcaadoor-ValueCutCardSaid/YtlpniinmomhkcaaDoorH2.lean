/- Appends, makes, conversions: what the model runs, told in blocks and rows. -/
import Derived.Test.YtlpniinmomhkcaaDoorH
import Derived.Test.YtlpniinmomhkcaaDoorNum
import Derived.Lib.AppendStr
import Derived.Lib.ConvBytes
import Derived.Laws.MakeOwn
import Derived.Laws.BytesArg
set_option linter.unusedVariables false
set_option linter.unusedSimpArgs false
namespace Go.Proofs.YtlpniinmomhkcaaDoor.V
open Go Go.RowKit

/-! ### Worlds in which one row alone was turned -/
theorem grownBy_refl (w : World) (row : Option Nat) : w.grownBy w row := ⟨rfl, rfl, rfl, Nat.le_refl _, fun _ _ _ => rfl⟩
theorem grownBy_of_ext {w w' : World} (h : Ext w w') (row : Option Nat) : w.grownBy w' row := ⟨h.os, h.tape, h.output, h.size, fun k hk _ => h.block k hk⟩
theorem grownBy_tr {a b c : World} {row row' : Option Nat} (h : a.grownBy b row) (k : b.grownBy c row') (hr : ∀ j, row' = some j → row = some j ∨ a.heap.size ≤ j) : a.grownBy c row :=
  ⟨k.os.trans h.os, k.tape.trans h.tape, k.output.trans h.output, Nat.le_trans h.size k.size, fun j hj hne => by
    rw [k.block j (Nat.lt_of_lt_of_le hj h.size) (fun e => by
      rcases hr j e.symm with h1 | h1
      · exact hne h1.symm
      · omega)]
    exact h.block j hj hne⟩
theorem ext_of_grown {a w w' : World} {row : Option Nat} (h : Ext a w) (hg : w.grownBy w' row) (hr : ∀ j, row = some j → a.heap.size ≤ j) : Ext a w' :=
  Below.grown h hg (Ext.size h) hr
theorem Sl.grown {w w' : World} {A : Option Addr} {n : Nat} {vs : List Value} {row : Option Nat} (h : Sl w A n vs) (hg : w.grownBy w' row) (hr : ∀ a, A = some a → some a.block ≠ row) : Sl w' A n vs :=
  ⟨h.1, h.2.1, fun hn => by
    obtain ⟨a, e, hc⟩ := h.2.2 hn
    refine ⟨a, e, fun j v hj => hg.cell (hc j v hj) ?_⟩
    have : (a.add j).block = a.block := by unfold Addr.add; split <;> rfl
    rw [this]
    exact hr a e⟩
theorem Blk.grown {w w' : World} {b : Nat} {cs : List Value} {t : TypeId} {row : Option Nat} (h : Blk w b cs t) (hg : w.grownBy w' row) (hr : some b ≠ row) : Blk w' b cs t :=
  (hg.block b h.lt hr).trans h
/-- Rows of our own. -/
theorem own_sl {w : World} {B : Nat} {e : TypeId} {A : Option Addr} {n c : Nat} {vs : List Value} (h : w.ownsRow B e 1 (.slice A n c) n vs) : Sl w A n vs := by
  have hl : vs.length = n := by simpa using h.1
  rcases h.2 with ⟨h1, h2⟩ | ⟨g, cap, cur, hv, hb, hh, h1, h2, h3, h4⟩
  · injection h1 with h1 h3 h4
    subst h1 h3
    exact ⟨hl, by omega, fun h => absurd h (by omega)⟩
  · injection hv with hv1 hv2 hv3
    subst hv1 hv3
    refine ⟨hl, by simp only [maxLen] at h2; omega, fun _ => ⟨_, rfl, fun j v hj => h.cells (g := g) rfl j v hj⟩⟩
theorem own_le {w : World} {B : Nat} {e : TypeId} {A : Option Addr} {n c : Nat} {vs : List Value} (h : w.ownsRow B e 1 (.slice A n c) n vs) : n ≤ c ∧ c ≤ 9223372036854775807 := by
  rcases h.2 with ⟨h1, h2⟩ | ⟨g, cap, cur, hv, hb, hh, h1, h2, h3, h4⟩
  · injection h1 with h1 h3 h4; subst h3 h4; omega
  · injection hv with hv1 hv2 hv3; subst hv3; simp only [maxLen] at h2; omega
theorem own_from {w : World} {B : Nat} {e : TypeId} {v : Value} {n : Nat} {vs : List Value} (h : w.ownsRow B e 1 v n vs) {k : Nat} (hk : v.ownBlock = some k) : B ≤ k ∧ k < w.heap.size := h.lt k hk
theorem own_ext {w w' : World} {B : Nat} {e : TypeId} {v : Value} {n : Nat} {vs : List Value} (h : w.ownsRow B e 1 v n vs) (he : Ext w w') : w'.ownsRow B e 1 v n vs :=
  h.kept (grownBy_of_ext he none) (by cases v.ownBlock <;> simp)
theorem own_lower {w : World} {B B' : Nat} {e : TypeId} {v : Value} {n : Nat} {vs : List Value} (h : w.ownsRow B e 1 v n vs) (hB : B' ≤ B) : w.ownsRow B' e 1 v n vs := by
  refine ⟨h.1, ?_⟩
  rcases h.2 with h1 | ⟨g, cap, cur, hv, hb, r⟩
  · exact .inl h1
  · exact .inr ⟨g, cap, cur, hv, by omega, r⟩
theorem own_new {w : World} {B : Nat} {cs : Array Value} {e : TypeId} (hB : B ≤ w.heap.size) (hm : cs.size ≤ 9223372036854775807) : (w.alloc (.cells cs e)).ownsRow B e 1 (.slice (some ⟨w.heap.size, 0, none⟩) cs.size cs.size) cs.size cs.toList := by
  have := World.ownsRow_lit (base := B) (e := e) (size := 1) w cs cs.size hB (by simpa [maxLen] using hm) (by simp)
  exact this
/-- What is told of an element type. -/
def Elem (P : Program) (t e : TypeId) (z : Value) (bytes : Nat) : Prop := P.underlying t = some (.slice e) ∧ ((P.info? e).map fun i => (i.zero, i.size, i.bytes)) = some (some z, 1, bytes) ∧ z.cells.size = 1
end Go.Proofs.YtlpniinmomhkcaaDoor.V
