/- Contracts of octet.Reader. -/
import Derived.Test.YtpbjbhcejgnhiaaDoorKIter
import Derived.Test.YtpbjbhcejgnhiaaDoorHX
set_option linter.unusedVariables false
set_option linter.unusedSimpArgs false
namespace Go.Proofs.YtpbjbhcejgnhiaaDoor.V
open Go Go.Proofs Go.RowKit

theorem set_grown (w : World) (b o : Nat) (v : Value) : w.grownBy (w.setCell ⟨b, o, none⟩ v) (some b) := by
  refine ⟨rfl, rfl, rfl, by simp, fun k hk hne => Below.heap_setCell _ _ _ _ ?_⟩
  intro e
  exact hne (by rw [e])
/-- A reader, and the bytes that it has left. -/
def Rdr (w : World) (lo b : Nat) (bs : List UInt8) : Prop := ∃ (A : Option Addr) (n c : Nat) (t : TypeId), Blk w b [.slice A n c] t ∧ Sl w A n (bV bs) ∧ n ≤ c ∧ (∀ a, A = some a → lo ≤ a.block ∧ a.block < b) ∧ lo ≤ b
theorem Rdr.lt {w : World} {lo b : Nat} {bs : List UInt8} (h : Rdr w lo b bs) : b < w.heap.size := by
  obtain ⟨A, n, c, t, hb, _⟩ := h
  exact hb.lt
theorem Rdr.ext {w w' : World} {lo b : Nat} {bs : List UInt8} (h : Rdr w lo b bs) (he : Ext w w') : Rdr w' lo b bs := by
  obtain ⟨A, n, c, t, hb, hs, hc, ha, hlo⟩ := h
  exact ⟨A, n, c, t, hb.ext he, hs.ext he, hc, ha, hlo⟩
theorem Rdr.grown {w w' : World} {lo b : Nat} {bs : List UInt8} {row : Option Nat} (h : Rdr w lo b bs) (hg : w.grownBy w' row) (hr : ∀ j, row = some j → j < lo ∨ b < j) : Rdr w' lo b bs := by
  obtain ⟨A, n, c, t, hb, hs, hc, ha, hlo⟩ := h
  refine ⟨A, n, c, t, hb.grown hg ?_, hs.grown hg ?_, hc, ha, hlo⟩
  · intro e
    have := hr b e.symm
    omega
  · intro a e e2
    have := hr a.block e2.symm
    have := ha a e
    omega
/-- A number read. -/
def rd (bs : List UInt8) (k : Nat) : Nat × Int × List UInt8 := if bs.length < k then (0, 7, bs) else (lev (bs.take k), 0, bs.drop k)
end Go.Proofs.YtpbjbhcejgnhiaaDoor.V
