/- Laws DeviceLast, DeviceCrash: plain. -/
import Derived.Test.YtpbjbhcejgnhiaaDoorL2
set_option linter.unusedVariables false
set_option linter.unusedSimpArgs false
namespace Go.Proofs.YtpbjbhcejgnhiaaDoor.V
open Go Go.Proofs Go.RowKit Crc

theorem mixS_all {old new : List UInt8} {p : Nat → Bool} (hl : new.length = old.length) (h : ∀ j, j * 64 < old.length → p j = true) : mixS old new p = new := by
  apply List.ext_getElem?
  intro i
  by_cases hi : i < old.length
  · rw [mixS_get hi, h _ (by omega)]
    simp [hl, hi]
  · rw [List.getElem?_eq_none (by rw [mixS_length]; omega), List.getElem?_eq_none (by omega)]
/-- Where each block has z bytes, a crash of all that is pending is a flush. -/
def allP (z n : Nat) : List (Int × Nat) := (List.range n).map fun (i : Nat) => ((i : Int), 2 ^ (z / 64) - 1)
theorem allP_succ (z n : Nat) : allP z (n + 1) = allP z n ++ [((n : Int), 2 ^ (z / 64) - 1)] := by simp [allP, List.range_succ]
theorem allP_length (z n : Nat) : (allP z n).length = n := by simp [allP]
theorem all_flush {z : Nat} {pen : List (Int × ByteArray)} {dur : List ByteArray} (hz : z % 64 = 0) (hd : ∀ s ∈ dur, (s.size : Int) = z) (hp : ∀ p ∈ pen, 0 ≤ p.1 ∧ p.1 < (dur.length : Int) ∧ (p.2.size : Int) = z) :
    ∀ m, m ≤ pen.length → (allP z m).foldl (applyP pen) dur = (pen.take m).foldl Go.Proofs.YtpbjbhcejgnhiaaDoor.V.put dur
  | 0, _ => rfl
  | m + 1, hm => by
    have e : pen[m]? = some (pen.getD m w00) := by rw [List.getD_eq_getElem?_getD, List.getElem?_eq_getElem (by omega)]; rfl
    have hq := hp _ (List.mem_of_getElem? e)
    rw [allP_succ, List.foldl_append, all_flush hz hd hp m (by omega), take_snoc e, List.foldl_append]
    generalize hX : (pen.take m).foldl Go.Proofs.YtpbjbhcejgnhiaaDoor.V.put dur = X
    have hXl : X.length = dur.length := by rw [← hX, puts_len]
    have hXe : ∀ s ∈ X, (s.size : Int) = z := by rw [← hX]; exact puts_each _ _ hd (fun p hp' => (hp p (List.mem_of_mem_take hp')).2.2)
    generalize pen.getD m w00 = q at e hq
    show applyP pen X ((m : Int), 2 ^ (z / 64) - 1) = Go.Proofs.YtpbjbhcejgnhiaaDoor.V.put X q
    unfold applyP Go.Proofs.YtpbjbhcejgnhiaaDoor.V.put
    rw [Int.toNat_natCast, List.getD_eq_getElem?_getD, e, Option.getD_some]
    have hold : ((X.getD q.1.toNat ByteArray.empty).size : Int) = z := by
      apply hXe
      rw [List.getD_eq_getElem?_getD, List.getElem?_eq_getElem (by omega)]
      exact List.getElem_mem _
    rw [B_size] at hold
    have hqs := hq.2.2
    rw [B_size] at hqs
    rw [mixS_all (by omega) (fun j hj => by rw [Nat.testBit_two_pow_sub_one]; exact decide_eq_true (by omega)), mkB_B]
theorem allP_ok {d : Dev} (h : d.Ok) : d.pickOK (allP d.size.toNat d.pen.length) := by
  refine ⟨fun p hp => ?_, ?_⟩
  · obtain ⟨i, hi, rfl⟩ := List.mem_map.1 hp
    have hi := List.mem_range.1 hi
    refine ⟨by dsimp only; omega, by dsimp only; omega, ?_⟩
    have := Nat.two_pow_pos d.secs
    exact Nat.div_eq_of_lt (by show 2 ^ d.secs - 1 < 2 ^ d.secs; omega)
  · unfold allP
    rw [List.map_map]
    show List.Pairwise (· ≠ ·) _
    rw [List.pairwise_map]
    exact List.nodup_range.imp (fun h e => h (by have e : ((_ : Nat) : Int) = ((_ : Nat) : Int) := e; exact Int.ofNat.inj e))
theorem all_crash {d : Dev} (h : d.Ok) : (d.crashed (allP d.size.toNat d.pen.length)).dur = d.pen.foldl Go.Proofs.YtpbjbhcejgnhiaaDoor.V.put d.dur := by
  have hd := h.dims
  have := all_flush (z := d.size.toNat) (pen := d.pen) (dur := d.dur) (by omega) (fun s hs => by have := h.each s hs; omega) (fun p hp => by have := h.pend p hp; have := h.len; omega) d.pen.length (Nat.le_refl _)
  rw [List.take_length] at this
  exact this
/-- A block's sector. -/
def sect (b : List UInt8) (j : Nat) : List UInt8 := (b.drop (j * 64)).take 64
theorem sect_mix {old new : List UInt8} {p : Nat → Bool} {j : Nat} (hn : new.length = old.length) (hj : j * 64 + 64 ≤ old.length) : sect (mixS old new p) j = if p j then sect new j else sect old j := by
  have hl := mixS_length old new p
  unfold sect
  apply List.ext_getElem?
  intro i
  by_cases hi : i < 64
  · rw [List.getElem?_take, if_pos hi, List.getElem?_drop, mixS_get (by omega), show (j * 64 + i) / 64 = j by omega]
    cases p j with
    | true => simp [hi, List.getElem?_drop, List.getElem?_eq_getElem (show j * 64 + i < new.length by omega)]
    | false => simp [hi, List.getElem?_drop, List.getElem?_eq_getElem (show j * 64 + i < old.length by omega)]
  · rw [List.getElem?_eq_none (by simp; omega)]
    split <;> rw [List.getElem?_eq_none (by simp; omega)]
/-- What each sector is behind a crash. -/
theorem sect_crash {z : Nat} {pen : List (Int × ByteArray)} {K j : Nat} (hj : j * 64 + 64 ≤ z) (hp : ∀ p ∈ pen, 0 ≤ p.1 ∧ (p.2.size : Int) = z) :
    ∀ (l : List (Int × Nat)) (dur : List ByteArray), (∀ s ∈ dur, (s.size : Int) = z) → K < dur.length → (∀ p ∈ l, 0 ≤ p.1 ∧ p.1 < (pen.length : Int)) →
      sect (B ((l.foldl (applyP pen) dur).getD K ByteArray.empty)) j = sect (B (dur.getD K ByteArray.empty)) j ∨
      ∃ p ∈ l, (pen.getD p.1.toNat w00).1 = K ∧ p.2.testBit j = true ∧ sect (B ((l.foldl (applyP pen) dur).getD K ByteArray.empty)) j = sect (B (pen.getD p.1.toNat w00).2) j
  | [], _, _, _, _ => .inl rfl
  | p :: r, dur, hd, hK, hl => by
    have hp1 := hl p List.mem_cons_self
    have e : pen[p.1.toNat]? = some (pen.getD p.1.toNat w00) := by rw [List.getD_eq_getElem?_getD, List.getElem?_eq_getElem (by omega)]; rfl
    have hq := hp _ (List.mem_of_getElem? e)
    rw [List.foldl_cons]
    rcases sect_crash hj hp r (applyP pen dur p) (apply_each pen [p] dur hd) (by show K < ([p].foldl (applyP pen) dur).length; rw [apply_len]; exact hK) (fun q hq => hl q (List.mem_cons_of_mem _ hq)) with h | ⟨q, h1, h2, h3, h4⟩
    · rw [h]
      unfold applyP
      rw [Go.Proofs.YtpbjbhcejgnhiaaDoor.V.getD_set]
      by_cases hk : (pen.getD p.1.toNat w00).1.toNat = K
      · rw [if_pos ⟨hk, hK⟩, B_mkB, hk]
        have hold : ((dur.getD K ByteArray.empty).size : Int) = z := by
          apply hd
          rw [List.getD_eq_getElem?_getD, List.getElem?_eq_getElem hK]
          exact List.getElem_mem _
        have hqs := hq.2
        rw [B_size] at hold hqs
        rw [sect_mix (by omega) (by omega)]
        cases hb : p.2.testBit j with
        | true => exact .inr ⟨p, List.mem_cons_self, by omega, hb, rfl⟩
        | false => exact .inl rfl
      · rw [if_neg (fun x => hk x.1)]
        exact .inl rfl
    · exact .inr ⟨q, List.mem_cons_of_mem _ h1, h2, h3, h4⟩
/-- A sector of an image is a sector of a block. -/
theorem image_sect {z : Nat} : ∀ (l : List ByteArray) (K j : Nat), (∀ s ∈ l, s.size = z) → K < l.length → j * 64 + 64 ≤ z → ((l.flatMap B).drop (K * z + j * 64)).take 64 = sect (B (l.getD K ByteArray.empty)) j
  | [], K, j, _, hK, _ => by simp at hK
  | s :: r, 0, j, h, _, hj => by
    have hs := h s List.mem_cons_self
    rw [B_size] at hs
    rw [List.flatMap_cons, Nat.zero_mul, Nat.zero_add, List.drop_append_of_le_length (by omega), List.take_append_of_le_length (by simp; omega)]
    rfl
  | s :: r, K + 1, j, h, hK, hj => by
    have hs := h s List.mem_cons_self
    rw [B_size] at hs
    rw [List.flatMap_cons, List.drop_append, List.drop_of_length_le (by rw [hs, Nat.add_mul]; omega), List.nil_append, hs, show (K + 1) * z + j * 64 - z = K * z + j * 64 by rw [Nat.add_mul]; omega]
    exact image_sect r K j (fun s hs => h s (List.mem_cons_of_mem _ hs)) (by simpa using hK) hj
end Go.Proofs.YtpbjbhcejgnhiaaDoor.V
