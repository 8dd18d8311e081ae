/- Devices: plain, and in memory. -/
import Derived.Test.YtpbjbhcejgnhiaaDoorHM
import Derived.Test.YtpbjbhcejgnhiaaDoorHB
import Derived.Test.YtpbjbhcejgnhiaaDoorKGeo
import Derived.Test.YtpbjbhcejgnhiaaDoorKIter
import Derived.Test.YtpbjbhcejgnhiaaDoorKCrc
import Derived.Test.YtpbjbhcejgnhiaaDoorKRef02
import Derived.Test.YtpbjbhcejgnhiaaDoorKKit2
set_option linter.unusedVariables false
set_option linter.unusedSimpArgs false
namespace Go.Proofs.YtpbjbhcejgnhiaaDoor.V
open Go Go.Proofs Go.RowKit Crc

/-! ### What a call may change -/
def Only (F : Nat → Prop) (w w' : World) : Prop := w'.os = w.os ∧ w'.tape = w.tape ∧ w'.output = w.output ∧ w.heap.size ≤ w'.heap.size ∧ ∀ k : Nat, k < w.heap.size → ¬ F k → w'.heap[k]? = w.heap[k]?
theorem Only.of_ext {F : Nat → Prop} {w w' : World} (h : Ext w w') : Only F w w' := ⟨h.os, h.tape, h.output, h.size, fun k hk _ => h.block k hk⟩
theorem Only.refl (F : Nat → Prop) (w : World) : Only F w w := Only.of_ext (Ext.refl w)
theorem Only.of_grown {F : Nat → Prop} {w w' : World} {row : Option Nat} (h : w.grownBy w' row) (hr : ∀ j, row = some j → F j ∨ w.heap.size ≤ j) : Only F w w' := by
  refine ⟨h.os, h.tape, h.output, h.size, fun k hk hF => h.block k hk (fun e => ?_)⟩
  rcases hr k e.symm with h1 | h1
  · exact hF h1
  · omega
theorem Only.trans {F G : Nat → Prop} {a b c : World} (h : Only F a b) (k : Only G b c) (hG : ∀ j, G j → F j ∨ a.heap.size ≤ j) : Only F a c := by
  obtain ⟨h1, h2, h3, h4, h5⟩ := h
  obtain ⟨k1, k2, k3, k4, k5⟩ := k
  refine ⟨k1.trans h1, k2.trans h2, k3.trans h3, Nat.le_trans h4 k4, fun j hj hF => ?_⟩
  rw [k5 j (by omega) (fun hg => by rcases hG j hg with x | x; exact hF x; omega), h5 j hj hF]
theorem Only.ext {F : Nat → Prop} {a w w' : World} (h : Ext a w) (k : Only F w w') (hF : ∀ j, F j → a.heap.size ≤ j) : Ext a w' := by
  obtain ⟨k1, k2, k3, k4, k5⟩ := k
  refine ⟨k1.trans h.os, k2.trans h.tape, k3.trans h.output, Nat.le_trans h.size k4, fun j hj => ?_⟩
  rw [k5 j (by have := h.size; omega) (fun hg => by have := hF j hg; omega)]
  exact h.block j hj
theorem Blk.only {F : Nat → Prop} {w w' : World} {b : Nat} {cs : List Value} {t : TypeId} (h : Blk w b cs t) (k : Only F w w') (hb : ¬ F b) : Blk w' b cs t := (k.2.2.2.2 b h.lt hb).trans h
theorem Owni.only {α : Type} {E : Enc α} {e : TypeId} {F : Nat → Prop} {w w' : World} {B : Nat} {A : Option Addr} {n c : Nat} {xs : List α} (h : Owni E e w B A n c xs) (k : Only F w w') (hr : ∀ j, orow A = some j → ¬ F j) : Owni E e w' B A n c xs := by
  refine ⟨h.1, ?_⟩
  rcases h.2 with hn | ⟨g, cap, cur, hv, hb, hgg, rest⟩
  · exact .inl hn
  · refine .inr ⟨g, cap, cur, hv, hb, ?_, rest⟩
    have ha : orow A = some g := by
      injection hv with hv
      rw [hv]
      rfl
    rw [k.2.2.2.2 g (Array.getElem?_eq_some_iff.1 hgg).1 (hr g ha)]
    exact hgg
/-! ### Plain -/
structure Dev where
  size : Int
  blocks : Int
  dur : List ByteArray
  pen : List (Int × ByteArray)
  ops : Int
  fuse : Int
def writeE : Enc (Int × ByteArray) where
  k := 2
  f x := [.int .i64 x.1, .string x.2]
  len _ := rfl
  one _ := by
    intro v hv
    simp only [List.mem_cons, List.not_mem_nil, or_false] at hv
    rcases hv with rfl | rfl <;> rfl
  pos := by decide
structure Dev.Ok (d : Dev) : Prop where
  geo : geoOK d.size d.blocks = true
  len : (d.dur.length : Int) = d.blocks
  each : ∀ s ∈ d.dur, (s.size : Int) = d.size
  pend : ∀ p ∈ d.pen, 0 ≤ p.1 ∧ p.1 < d.blocks ∧ (p.2.size : Int) = d.size
  fuse : -1 ≤ d.fuse ∧ d.fuse < 9223372036854775808
def Dev.there (d : Dev) (k : Int) : Bool := decide (0 ≤ k ∧ k < d.blocks)
def Dev.burnt (d : Dev) : Dev := { d with fuse := max (-1) (d.fuse - 1), ops := IntKind.wrap .i64 (d.ops + 1) }
def Dev.write (d : Dev) (k : Int) (s : ByteArray) : Dev × Int :=
  if ¬ (0 ≤ k ∧ k < d.blocks) ∨ (s.size : Int) ≠ d.size then (d, 2)
  else if d.fuse = 0 then (d, 8)
  else ({ d.burnt with pen := d.pen ++ [(k, s)] }, 0)
def put (l : List ByteArray) (p : Int × ByteArray) : List ByteArray := l.set p.1.toNat p.2
def Dev.flush (d : Dev) : Dev × Int := if d.fuse = 0 then (d, 8) else ({ d.burnt with dur := d.pen.foldl put d.dur, pen := [] }, 0)
def Dev.read (d : Dev) (k : Int) : ByteArray × Int :=
  if ¬ (0 ≤ k ∧ k < d.blocks) then (ByteArray.empty, 2)
  else ((d.pen.foldl put d.dur).getD k.toNat ByteArray.empty, 0)
def Dev.image (d : Dev) : List UInt8 := d.dur.flatMap B
/-! ### In memory -/
/-- A device's box and its two rows; F holds of these blocks alone. -/
structure DevAt (w : World) (b : Nat) (d : Dev) (F : Nat → Prop) : Prop where
  mem : ∃ (Ad Ap : Option Addr) (nd cd np cp : Nat) (t : TypeId), Blk w b [.int .i64 d.size, .int .i64 d.blocks, .slice Ad nd cd, .slice Ap np cp, .int .i64 d.ops, .int .i64 d.fuse] t
    ∧ Owni strE 9 w 0 Ad nd cd d.dur ∧ Owni writeE 53 w 0 Ap np cp d.pen ∧ (∀ k, F k ↔ k = b ∨ orow Ad = some k ∨ orow Ap = some k) ∧ orow Ad ≠ some b ∧ orow Ap ≠ some b ∧ (∀ j, orow Ad = some j → orow Ap ≠ some j)
  ok : d.Ok
theorem DevAt.lt {w : World} {b : Nat} {d : Dev} {F : Nat → Prop} (h : DevAt w b d F) : ∀ k, F k → k < w.heap.size := by
  obtain ⟨Ad, Ap, nd, cd, np, cp, t, hb, hd, hp, hF, _⟩ := h.mem
  intro k hk
  rcases (hF k).1 hk with rfl | h | h
  · exact hb.lt
  · exact hd.row_lt k h
  · exact hp.row_lt k h
theorem DevAt.box {w : World} {b : Nat} {d : Dev} {F : Nat → Prop} (h : DevAt w b d F) : F b := by
  obtain ⟨Ad, Ap, nd, cd, np, cp, t, hb, hd, hp, hF, _⟩ := h.mem
  exact (hF b).2 (.inl rfl)
/-- What does not touch a device leaves it as it was. -/
theorem DevAt.apart {w w' : World} {b : Nat} {d : Dev} {F G : Nat → Prop} (h : DevAt w b d F) (k : Only G w w') (hFG : ∀ j, F j → ¬ G j) : DevAt w' b d F := by
  refine ⟨?_, h.ok⟩
  obtain ⟨Ad, Ap, nd, cd, np, cp, t, hb, hd, hp, hF, h1, h2, h3⟩ := h.mem
  exact ⟨Ad, Ap, nd, cd, np, cp, t, hb.only k (hFG b ((hF b).2 (.inl rfl))), hd.only k (fun j hj => hFG j ((hF j).2 (.inr (.inl hj)))), hp.only k (fun j hj => hFG j ((hF j).2 (.inr (.inr hj)))), hF, h1, h2, h3⟩
end Go.Proofs.YtpbjbhcejgnhiaaDoor.V
