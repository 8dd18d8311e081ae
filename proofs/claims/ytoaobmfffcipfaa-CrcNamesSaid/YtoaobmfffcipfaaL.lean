/- The laws of chapter 2, as contracts. -/
import Derived.Test.YtoaobmfffcipfaaKRef02
set_option linter.unusedVariables false
set_option linter.unusedSimpArgs false
namespace Go.Proofs.Ytoaobmfffcipfaa.V
open Go Go.Proofs Crc

theorem crc_lives : (crc [49, 50, 51, 52, 53, 54, 55, 56, 57]).toNat = 3808858755 := by
  rw [crc_eq]
  kernel_rfl
theorem lives_calls (w : World) : Calls Try.prog 9 #[] w (Ret fun v w' => v = .bool true ∧ Ext w w') := by
  apply calls9
  unfold S9
  refine conv_const (by kernel_rfl) (by kernel_rfl) (by rfl) (by omega) ?_
  intro w1 hs he
  have hs' : Sl w1 (some ⟨w.heap.size, 0, none⟩) 9 (bV [49, 50, 51, 52, 53, 54, 55, 56, 57]) := hs
  refine callW_of (crc_calls hs') ?_
  rintro _ w2 ⟨rfl, he2⟩
  refine ⟨_, rfl, ?_, he.trans he2⟩
  rw [crc_lives]
  rfl
theorem crc_xor3 {a b c : List UInt8} (hb : b.length = a.length) (hc : c.length = a.length) : crc (xors (xors a b) c) = crc a ^^^ crc b ^^^ crc c := by
  have h1 := cupd_xor a b (~~~ 0#32) (~~~ 0#32) hb.symm
  have h2 := cupd_xor (xors a b) c (~~~ 0#32 ^^^ ~~~ 0#32) (~~~ 0#32) (by simp [length_xors, hb, hc])
  rw [h1] at h2
  have e : (~~~ 0#32 ^^^ ~~~ 0#32) ^^^ ~~~ 0#32 = ~~~ 0#32 := by decide
  rw [e] at h2
  rw [crc_eq, crc_eq, crc_eq, crc_eq, h2]
  generalize cupd (~~~ 0#32) a = x
  generalize cupd (~~~ 0#32) b = y
  generalize cupd (~~~ 0#32) c = z
  apply BitVec.eq_of_getLsbD_eq
  intro i hi
  simp only [BitVec.getLsbD_xor, BitVec.getLsbD_not, hi, decide_true, Bool.true_and]
  cases x.getLsbD i <;> cases y.getLsbD i <;> cases z.getLsbD i <;> rfl

theorem linear_calls {w : World} {A0 A1 A2 : Option Addr} {n0 c0 n1 c1 n2 c2 : Nat} {x y z : List UInt8} (h0 : Sl w A0 n0 (bV x)) (h1 : Sl w A1 n1 (bV y)) (h2 : Sl w A2 n2 (bV z)) (g0 : n0 ≤ c0) (g1 : n1 ≤ c1) (g2 : n2 ≤ c2) :
    Calls Try.prog 3 #[.slice A0 n0 c0, .slice A1 n1 c1, .slice A2 n2 c2] w (Ret fun v w' => v = .bool true ∧ Ext w w') := by
  apply calls3
  unfold S3
  have l0 := h0.blen
  have l1 := h1.blen
  have l2 := h2.blen
  have b0 := h0.le
  have b1 := h1.le
  have b2 := h2.le
  refine callW_of (lives_calls w) ?_
  rintro _ w1 ⟨rfl, he1⟩
  refine ⟨_, rfl, ?_⟩
  refine splitW_f (by rfl) ?_
  obtain ⟨m, hm, hm0, hm1, hm2⟩ : ∃ m : Nat, (if ((n2 : Nat) : Int) < (if ((n1 : Nat) : Int) < ((n0 : Nat) : Int) then ((n1 : Nat) : Int) else ((n0 : Nat) : Int)) then ((n2 : Nat) : Int) else (if ((n1 : Nat) : Int) < ((n0 : Nat) : Int) then ((n1 : Nat) : Int) else ((n0 : Nat) : Int))) = (m : Int) ∧ m ≤ n0 ∧ m ≤ n1 ∧ m ≤ n2 := by
    refine ⟨min (min n0 n1) n2, ?_, by omega, by omega, by omega⟩
    split <;> split <;> omega
  rw [hm]
  refine splitW_i (fun h => ⟨rfl, he1⟩) (fun h => ?_)
  have hm300 : m ≤ 300 := by have := of_decide_eq_false h; omega
  refine make_own (B := w.heap.size) elem_u8 rfl he1.size (by omega) (by omega) ?_
  intro w2 ho hg2
  have he2 : Ext w w2 := he1.none hg2
  generalize w1.heap.size = blk at ho ⊢
  refine loopW_i (fun s w' => ∃ i : Nat, i ≤ m ∧ s = ((i : Int), ()) ∧ Own 5 w' w.heap.size (some ⟨blk, 0, none⟩) m m (bV ((xors (xors (x.take i) (y.take i)) (z.take i)) ++ List.replicate (m - i) 0)) ∧ Ext w w') (fun s => (m - s.1).toNat) ⟨0, by omega, rfl, ?_, he2⟩ ?_
  · have : bV (List.replicate m 0) = List.replicate m (Value.int .u8 0) := by simp [bV]
    simp only [List.take_zero, xors, List.zipWith_nil_left, List.nil_append, Nat.sub_zero]
    rw [this]
    exact ho
  rintro _ w3 ⟨i, hi, rfl, ho3, he3⟩
  dsimp only
  by_cases hlt : i < m
  · refine splitW_t (decide_eq_true (by omega)) ?_
    have he3' := he3.drew
    have ho3' := ho3.ext (Ext.refl w3).drew
    refine idx_byte (h0.ext he3') (by omega) (by omega) ?_
    refine idx_byte (h1.ext he3') (by omega) (by omega) ?_
    refine idx_byte (h2.ext he3') (by omega) (by omega) ?_
    refine idx_set ho3' (by omega) (by omega) ?_
    intro w4 ho4 hg4
    rw [wrap_i64 (by omega) (by omega)]
    refine ⟨⟨i + 1, by omega, rfl, ?_, he3'.grown hg4 ho3'.row⟩, by omega⟩
    rw [Int.toNat_natCast, u8_toBitVec, u8_toBitVec, u8_toBitVec, ixor8, ixor8] at ho4
    have e : bV (xors (xors (x.take (i + 1)) (y.take (i + 1))) (z.take (i + 1)) ++ List.replicate (m - (i + 1)) 0) = (bV (xors (xors (x.take i) (y.take i)) (z.take i) ++ List.replicate (m - i) 0)).set i (.int .u8 (((x.getD i 0).toBitVec ^^^ (y.getD i 0).toBitVec ^^^ (z.getD i 0).toBitVec).toNat : Int)) := by
      have e1 : ∀ {l : List UInt8}, i < l.length → l.take (i + 1) = l.take i ++ [l.getD i 0] := fun {l} hl => by
        rw [List.take_succ_eq_append_getElem hl, List.getD_eq_getElem?_getD, List.getElem?_eq_getElem hl]
        rfl
      have hx : (xors (xors (x.take i) (y.take i)) (z.take i)).length = i := by simp [length_xors]; omega
      rw [e1 (show i < x.length by omega), e1 (show i < y.length by omega), e1 (show i < z.length by omega)]
      have e2 : ∀ (a b : List UInt8) (p q : UInt8), a.length = b.length → xors (a ++ [p]) (b ++ [q]) = xors a b ++ [p ^^^ q] := fun a b p q hab => by
        unfold xors
        rw [List.zipWith_append hab]
        rfl
      rw [e2 _ _ _ _ (by simp; omega), e2 _ _ _ _ (by simp [length_xors]; omega)]
      have e3 : (Value.int .u8 (((x.getD i 0).toBitVec ^^^ (y.getD i 0).toBitVec ^^^ (z.getD i 0).toBitVec).toNat : Int)) = .int .u8 ((x.getD i 0 ^^^ y.getD i 0 ^^^ z.getD i 0).toNat : Int) := rfl
      rw [e3, bV_set, List.set_append_right _ _ (by omega), hx, Nat.sub_self, show m - i = (m - (i + 1)) + 1 by omega, List.replicate_succ, List.set_cons_zero]
      simp
    rw [e]
    exact ho4
  · obtain rfl : i = m := by omega
    refine splitW_f (decide_eq_false (by omega)) ?_
    refine ⟨⟨by omega, by omega⟩, ⟨by omega, by omega⟩, ⟨by omega, by omega⟩, ?_⟩
    have he3' := he3.drew
    have ho3' := ho3.ext (Ext.refl w3).drew
    generalize w3.drew = w3' at he3' ho3' ⊢
    refine callW_of (crc_calls ho3'.sl) ?_
    rintro _ w4 ⟨rfl, he4⟩
    refine ⟨_, rfl, ?_⟩
    rw [Int.toNat_natCast]
    have k0 := ((h0.cut0 (k := i) (m := c0) hm0 (by omega))).ext (he3'.trans he4)
    have k1 := ((h1.cut0 (k := i) (m := c1) hm1 (by omega))).ext (he3'.trans he4)
    have k2 := ((h2.cut0 (k := i) (m := c2) hm2 (by omega))).ext (he3'.trans he4)
    rw [bV_take] at k0 k1 k2
    refine callW_of (crc_calls k0) ?_
    rintro _ w5 ⟨rfl, he5⟩
    refine ⟨_, rfl, ?_⟩
    refine callW_of (crc_calls (k1.ext he5)) ?_
    rintro _ w6 ⟨rfl, he6⟩
    refine ⟨_, rfl, ?_⟩
    refine callW_of (crc_calls (k2.ext (he5.trans he6))) ?_
    rintro _ w7 ⟨rfl, he7⟩
    refine ⟨_, rfl, ?_, (((he3'.trans he4).trans he5).trans he6).trans he7⟩
    rw [ixor32, ixor32, Nat.sub_self, List.replicate_zero, List.append_nil, crc_xor3 (by simp; omega) (by simp; omega)]
    simp
/-- x... behind a slice of one's own, checked. -/
theorem behind_calls {w : World} {A0 A1 : Option Addr} {n0 c0 n1 c1 : Nat} {x y : List UInt8} (h0 : Sl w A0 n0 (bV x)) (h1 : Sl w A1 n1 (bV y)) :
    Calls Try.prog 4 #[.slice A0 n0 c0, .slice A1 n1 c1] w (Ret fun v w' => v = .bool true ∧ Ext w w') := by
  apply calls4
  unfold S4
  refine callW_of (lives_calls w) ?_
  rintro _ w1 ⟨rfl, he1⟩
  refine ⟨_, rfl, ?_⟩
  refine splitW_f (by rfl) ?_
  refine splitW_i (fun h => ⟨rfl, he1⟩) (fun hn0 => ?_)
  refine splitW_i (fun h => ⟨rfl, he1⟩) (fun hn1 => ?_)
  have hn0 := of_decide_eq_false hn0
  have hn1 := of_decide_eq_false hn1
  refine callW_of (own_calls (h0.ext he1) (by omega)) ?_
  rintro _ w2 ⟨⟨A2, n2, d2⟩, rfl, ho2, he2⟩
  refine ⟨_, rfl, ?_⟩
  dsimp only at ho2 ⊢
  have he12 := he1.trans he2
  refine callW_of (crc_calls (h0.ext he12)) ?_
  rintro _ w3 ⟨rfl, he3⟩
  refine ⟨_, rfl, ?_⟩
  have he13 := he12.trans he3
  have ho3 := (ho2.ext he3).lower he1.size
  have l0 := h0.blen
  have l1 := h1.blen
  have l2 := ho3.sl.blen
  have hcx := (crc x).isLt
  have hcy := (crc y).isLt
  rw [wrap_u64_nat (by omega)]
  refine callW_of (put_calls (k := 4) ho3 he13.size (by omega) (by omega) (by omega) (by omega)) ?_
  rintro _ w4 ⟨⟨A4, n4, d4⟩, rfl, ho4, hg4⟩
  refine ⟨_, rfl, ?_⟩
  dsimp only at ho4 hg4 ⊢
  have he14 := he13.grown hg4.grown ho3.row'
  refine callW_of (own_calls (h1.ext he14) (by omega)) ?_
  rintro _ w5 ⟨⟨A5, n5, d5⟩, rfl, ho5, he5⟩
  refine ⟨_, rfl, ?_⟩
  dsimp only at ho5 ⊢
  have he15 := he14.trans he5
  refine callW_of (crc_calls (h1.ext he15)) ?_
  rintro _ w6 ⟨rfl, he6⟩
  refine ⟨_, rfl, ?_⟩
  have he16 := he15.trans he6
  rw [wrap_u64_nat (by omega)]
  have ho6 := ho5.ext he6
  have l5 := ho6.sl.blen
  refine callW_of (put_calls (k := 4) ho6 (Nat.le_trans he5.size he6.size) (by omega) (by omega) (by omega) (by omega)) ?_
  rintro _ w7 ⟨⟨A7, n7, d7⟩, rfl, ho7, hg7⟩
  refine ⟨_, rfl, ?_⟩
  dsimp only at ho7 hg7 ⊢
  have he47 : Ext w4 w7 := (he5.trans he6).grown hg7.grown ho6.row'
  have he17 := he14.trans he47
  have ho47 := ho4.ext he47
  have l4 := ho47.sl.blen
  have l7 := ho7.sl.blen
  simp only [List.length_append, le_length] at l4 l7
  refine callW_of (crc_calls ho47.sl) ?_
  rintro _ w8 ⟨rfl, he8⟩
  refine ⟨_, rfl, ?_⟩
  refine callW_of (crc_calls (ho7.sl.ext he8)) ?_
  rintro _ w9 ⟨rfl, he9⟩
  refine ⟨_, rfl, ?_⟩
  have he19 := (he17.trans he8).trans he9
  have ex := cupd_behind x
  have ey := cupd_behind y
  have e1 : crc (x ++ le 4 (crc x).toNat) = crc (y ++ le 4 (crc y).toNat) := by rw [crc_eq, crc_eq (y ++ _), ex, ey]
  have e2 : crc ((x ++ le 4 (crc x).toNat) ++ y) = crc ((y ++ le 4 (crc y).toNat) ++ y) := by
    rw [crc_eq, crc_eq ((y ++ _) ++ y), cupd_append, cupd_append _ _ y, ex, ey]
  refine splitW_t (by rw [e1]; simp) ?_
  have ho49 := (ho47.ext (he8.trans he9))
  have ho79 := (ho7.ext (he8.trans he9))
  refine callW_of (own_calls ho49.sl (by omega)) ?_
  rintro _ w10 ⟨⟨A10, n10, d10⟩, rfl, ho10, he10⟩
  refine ⟨_, rfl, ?_⟩
  dsimp only at ho10 ⊢
  have l10 := ho10.sl.blen
  simp only [List.length_append, le_length] at l10
  refine append_sl elem_u8 ho10 he10.size (h1.ext (he19.trans he10)) (bV_one y) (by omega) (by omega) ?_
  intro A11 d11 w11 ho11 hg11 _
  dsimp only
  have he11 : Ext w9 w11 := he10.grown hg11.grown ho10.row'
  rw [← bV_append] at ho11
  refine callW_of (crc_calls ho11.sl) ?_
  rintro _ w12 ⟨rfl, he12'⟩
  refine ⟨_, rfl, ?_⟩
  have ho712 := ho79.ext (he11.trans he12')
  refine callW_of (own_calls ho712.sl (by omega)) ?_
  rintro _ w13 ⟨⟨A13, n13, d13⟩, rfl, ho13, he13'⟩
  refine ⟨_, rfl, ?_⟩
  dsimp only at ho13 ⊢
  have l13 := ho13.sl.blen
  simp only [List.length_append, le_length] at l13
  have he113 := ((he19.trans he11).trans he12').trans he13'
  refine append_sl elem_u8 ho13 he13'.size (h1.ext he113) (bV_one y) (by omega) (by omega) ?_
  intro A14 d14 w14 ho14 hg14 _
  dsimp only
  rw [← bV_append] at ho14
  have he114 : Ext w w14 := (he19.trans (he11.trans he12')).trans (he13'.grown hg14.grown ho13.row')
  refine callW_of (crc_calls ho14.sl) ?_
  rintro _ w15 ⟨rfl, he15'⟩
  refine ⟨_, rfl, ?_, he114.trans he15'⟩
  rw [e2]
  simp
theorem bursts_calls {w : World} {A0 : Option Addr} {n0 c0 : Nat} {x : List UInt8} {bit n : Int} {m : W32} (h0 : Sl w A0 n0 (bV x)) (hb0 : -9223372036854775808 ≤ bit) (hb1 : bit < 9223372036854775808) (hn0 : -9223372036854775808 ≤ n) (hn1 : n < 9223372036854775808) :
    Calls Try.prog 7 #[.slice A0 n0 c0, .int .i64 bit, .int .i64 n, .int .u32 (m.toNat : Int)] w (Ret fun v w' => v = .bool true ∧ Ext w w') := by
  apply calls7
  unfold S7
  refine callW_of (lives_calls w) ?_
  rintro _ w1 ⟨rfl, he1⟩
  refine ⟨_, rfl, ?_⟩
  refine splitW_f (by rfl) ?_
  refine splitW_i (fun h => ⟨rfl, he1⟩) (fun hl => ?_)
  have hl := of_decide_eq_false hl
  refine callW_of (own_calls (h0.ext he1) (by omega)) ?_
  rintro _ w2 ⟨⟨A2, n2, d2⟩, rfl, ho2, he2⟩
  refine ⟨_, rfl, ?_⟩
  dsimp only at ho2 ⊢
  have he12 := he1.trans he2
  refine callW_of (crc_calls (h0.ext he12)) ?_
  rintro _ w3 ⟨rfl, he3⟩
  refine ⟨_, rfl, ?_⟩
  have he13 := he12.trans he3
  have ho3 := (ho2.ext he3).lower he1.size
  have l0 := h0.blen
  have l2 := ho3.sl.blen
  have hcx := (crc x).isLt
  rw [wrap_u64_nat (by omega)]
  refine callW_of (put_calls (k := 4) ho3 he13.size (by omega) (by omega) (by omega) (by omega)) ?_
  rintro _ w4 ⟨⟨A4, n4, d4⟩, rfl, ho4, hg4⟩
  refine ⟨_, rfl, ?_⟩
  dsimp only at ho4 hg4 ⊢
  have he14 := he13.grown hg4.grown ho3.row'
  have l4 := ho4.sl.blen
  have hx4 : (x ++ le 4 (crc x).toNat).length = n4 := l4
  have hxl : (x ++ le 4 (crc x).toNat).length = n0 + 4 := by rw [List.length_append, le_length, l0]
  have hbehind := cupd_behind x
  generalize x ++ le 4 (crc x).toNat = all at *
  rw [show IntKind.wrap .i64 ((8 : Int) * (n4 : Int)) = 8 * (n4 : Int) from wrap_i64 (by omega) (by omega)]
  refine callW_of (pick_calls w4 hb0 hb1 (by omega)) ?_
  rintro _ w5 ⟨rfl, hw5⟩
  subst hw5
  refine ⟨_, rfl, ?_⟩
  refine callW_of (pick_calls w5 hn0 hn1 (by omega)) ?_
  rintro _ w6 ⟨rfl, hw6⟩
  subst hw6
  refine ⟨_, rfl, ?_⟩
  have hp1 : 0 ≤ pick bit (8 * (n4 : Int)) ∧ pick bit (8 * (n4 : Int)) < 9223372036854775808 := by
    unfold pick
    rw [if_neg (by omega)]
    have := Int.emod_nonneg bit (show 8 * (n4 : Int) ≠ 0 by omega)
    have := Int.emod_lt_of_pos bit (show 0 < 8 * (n4 : Int) by omega)
    omega
  have hp2 : 0 ≤ pick n 33 ∧ pick n 33 ≤ 32 := by
    unfold pick
    rw [if_neg (by omega)]
    omega
  generalize pick bit (8 * (n4 : Int)) = p1 at *
  generalize pick n 33 = p2 at *
  refine callW_of (flip_calls (k := p2) (m := m) ho4.sl (by omega) (by omega) hp1.2) ?_
  rintro _ w7 ⟨⟨A7, n7, d7⟩, rfl, ho7, he7⟩
  refine ⟨_, rfl, ?_⟩
  dsimp only at ho7 ⊢
  have l7 := ho7.sl.blen
  have hfl : flipG all p1 p2 m = flip all p1.toNat p2.toNat m := by
    unfold flipG
    rw [if_neg (by omega)]
  have hlf : (flipG all p1 p2 m).length = all.length := length_flipG _ _ _ _
  have hle7 := ho7.le
  rw [show IntKind.wrap .i64 ((n7 : Int) - 4) = ((n7 - 4 : Nat) : Int) from by rw [wrap_i64 (by omega) (by omega)]; omega]
  refine splitW_f (decide_eq_false (by omega)) ?_
  refine splitW_f (by simp; omega) ?_
  refine ⟨⟨by omega, by omega⟩, ⟨by omega, by omega⟩, ?_⟩
  rw [Int.toNat_natCast]
  have ho7' := ho7.ext (Ext.refl w7).drew
  have he17 := (he14.trans he7).drew
  have he7' := he7.drew
  generalize w7.drew = w8 at *
  have kc := ho7'.sl.cut0 (k := n7 - 4) (m := d7) (by omega) (by omega)
  have kd := ho7'.sl.cut (l := n7 - 4) (k := n7 - (n7 - 4)) (m := d7) (by omega) (by omega)
  rw [bV_take] at kc
  rw [bV_drop, bV_take] at kd
  refine callW_of (crc_calls kc) ?_
  rintro _ w9 ⟨rfl, he9⟩
  refine ⟨_, rfl, ?_⟩
  refine callW_of (refof_calls (kd.ext he9) (by omega)) ?_
  rintro _ w10 ⟨rfl, hw10⟩
  subst hw10
  refine ⟨_, rfl, ?_⟩
  refine callW_of (same_calls (ho7'.sl.ext he9) ((ho4.ext (he7'.trans he9)).sl)) ?_
  rintro _ w11 ⟨rfl, he11⟩
  refine ⟨_, rfl, ?_, (he17.trans he9).trans he11⟩
  have hcy := (crc ((flipG all p1 p2 m).take (n7 - 4))).isLt
  rw [wrap_u64_nat (by omega)]
  have hg := good_iff (x := flipG all p1 p2 m) (by omega)
  rw [l7] at hg
  have htake : ((flipG all p1 p2 m).drop (n7 - 4)).take (n7 - (n7 - 4)) = (flipG all p1 p2 m).drop (n7 - 4) := List.take_of_length_le (by simp; omega)
  rw [htake]
  congr 1
  rw [beq_iff_eq]
  by_cases hs : flipG all p1 p2 m = all
  · rw [decide_eq_true hs, beq_iff_eq]
    have := hg.2 (by rw [hs]; exact hbehind)
    exact_mod_cast this
  · rw [decide_eq_false hs, beq_eq_false_iff_ne]
    intro h
    apply hs
    have h1 := hg.1 (by exact_mod_cast h)
    rw [hfl] at h1 ⊢
    exact flip_told (by omega) (h1.trans hbehind.symm)
theorem held_cells {w : World} {a : Addr} : ∀ (vs : List Value) (i : Nat), CellsAt w a i vs → ∀ p ∈ cellList a i vs, w.cell? p.1 = some p.2
  | [], _, _ => fun p hp => by cases hp
  | v :: r, i, h => fun p hp => by
    rcases List.mem_cons.1 hp with rfl | hp
    · exact h.1
    · exact held_cells r (i + 1) h.2 p hp
theorem held_one {w : World} {b : Nat} {cs : List Value} {t : TypeId} {K : WP} (h : Blk w b cs t) (hK : K w) : heldW [cellList ⟨b, 0, none⟩ 0 cs] K w :=
  ⟨fun l hl p hp => by
    simp only [List.mem_singleton] at hl
    subst hl
    exact held_cells _ _ h.cellsAt p hp, hK⟩
theorem parts_calls {w : World} {A0 : Option Addr} {n0 c0 : Nat} {x : List UInt8} {T : List W32} {s m : W32} {cut bit : Int} (hT : T.length = 256) (h0 : Sl w A0 n0 (bV x)) (hc : n0 ≤ c0) (hb0 : -9223372036854775808 ≤ bit) (hb1 : bit < 9223372036854775808) (hn0 : -9223372036854775808 ≤ cut) (hn1 : cut < 9223372036854775808) :
    Calls Try.prog 8 #[.agg (tabV T).toArray, .int .u32 (s.toNat : Int), .slice A0 n0 c0, .int .i64 cut, .int .i64 bit, .int .u32 (m.toNat : Int)] w (Ret fun v w' => v = .bool true ∧ Ext w w') := by
  apply calls8
  unfold S8
  apply newW_i
  have hblk : Blk (w.alloc (.cells (tabV T).toArray 31)) w.heap.size (tabV T) 31 := by simpa using Blk.new w (tabV T).toArray _
  have he0 : Ext w (w.alloc (.cells (tabV T).toArray 31)) := (Ext.refl w).alloc _
  have hlen : (tabV T).length = 256 := by rw [length_tabV, hT]
  generalize w.alloc (.cells (tabV T).toArray 31) = w0 at hblk he0 ⊢
  refine callW_of (lives_calls w0) ?_
  rintro _ w1 ⟨rfl, he1⟩
  refine ⟨_, rfl, ?_⟩
  refine splitW_f (by rfl) ?_
  have he01 := he0.trans he1
  refine splitW_i (fun h => ⟨rfl, he01⟩) (fun hl => ?_)
  have hl := of_decide_eq_false hl
  have l0 := h0.blen
  rw [show IntKind.wrap .i64 ((n0 : Int) + (1 : Int)) = (n0 : Int) + 1 from wrap_i64 (by omega) (by omega)]
  refine callW_of (pick_calls w1 hn0 hn1 (by omega)) ?_
  rintro _ w2 ⟨rfl, hw2⟩
  subst hw2
  refine ⟨_, rfl, ?_⟩
  obtain ⟨k, hk, hk2⟩ : ∃ k : Nat, pick cut ((n0 : Int) + 1) = k ∧ k ≤ n0 := by
    refine ⟨(pick cut ((n0 : Int) + 1)).toNat, ?_, ?_⟩ <;>
    · unfold pick
      rw [if_neg (by omega)]
      have := Int.emod_nonneg cut (show (n0 : Int) + 1 ≠ 0 by omega)
      have := Int.emod_lt_of_pos cut (show 0 < (n0 : Int) + 1 by omega)
      omega
  rw [hk]
  have he02 := he01.drew
  have hb2 := (hblk.ext he1).drew
  show (ldRW _ _ _) w2.drew
  generalize w2.drew = w3 at *
  have hT' : (tabV T).toArray.size = 256 := by simpa using hlen
  refine ldR_blk (cs := (tabV T).toArray) hb2 hT' ?_
  refine ldR_blk (cs := (tabV T).toArray) hb2 hT' ?_
  refine ⟨⟨by omega, by omega⟩, ⟨by omega, by omega⟩, ?_⟩
  rw [Int.toNat_natCast]
  have kc := (h0.cut0 (k := k) (m := c0) (by omega) (by omega)).ext he02
  have kd := (h0.cut (l := k) (k := n0 - k) (m := c0) (by omega) (by omega)).ext he02
  rw [bV_take] at kc
  rw [bV_drop, bV_take, List.take_of_length_le (by simp; omega)] at kd
  refine callW_of (update_calls hT kc) ?_
  rintro _ w4 ⟨rfl, he4⟩
  refine ⟨_, rfl, ?_⟩
  refine held_one (hb2.ext he4) ?_
  refine callW_of (update_calls hT (kd.ext he4)) ?_
  rintro _ w5 ⟨rfl, he5⟩
  refine ⟨_, rfl, ?_⟩
  have he05 := (he02.trans he4).trans he5
  refine ldR_blk (cs := (tabV T).toArray) (hb2.ext (he4.trans he5)) hT' ?_
  refine callW_of (update_calls hT (h0.ext he05)) ?_
  rintro _ w6 ⟨rfl, he6⟩
  refine ⟨_, rfl, ?_⟩
  refine splitW_t (by rw [← upd_append, List.take_append_drop]; simp) ?_
  have he06 := he05.trans he6
  refine callW_of (flip_calls (k := 32) (m := m) (h0.ext he06) (by omega) hb0 hb1) ?_
  rintro _ w7 ⟨⟨A7, n7, d7⟩, rfl, ho7, he7⟩
  refine ⟨_, rfl, ?_⟩
  dsimp only at ho7 ⊢
  have l7 := ho7.sl.blen
  rw [length_flipG] at l7
  refine callW_of (flip_calls (k := 32) (m := m) ho7.sl (by omega) hb0 hb1) ?_
  rintro _ w8 ⟨⟨A8, n8, d8⟩, rfl, ho8, he8⟩
  refine ⟨_, rfl, ?_⟩
  dsimp only at ho8 ⊢
  refine callW_of (same_calls ho8.sl (h0.ext ((he06.trans he7).trans he8))) ?_
  rintro _ w9 ⟨rfl, he9⟩
  refine ⟨_, rfl, ?_, ((he06.trans he7).trans he8).trans he9⟩
  congr 1
  rw [decide_eq_true_iff]
  unfold flipG
  split
  · rfl
  · exact flip_flip _ _ _ _
theorem tab_eq (w : World) : (eqS .eql 31 (.tmp 18) (.tmp 19) (.agg (tabV table).toArray) (.agg (tabV table).toArray)).run Try.prog w = .ok (.bool true) w := by
  kernel_rfl
theorem lcalls_calls {w : World} {A0 : Option Addr} {n0 c0 : Nat} {x : List UInt8} {T : List W32} {s m : W32} {bit n : Int} (hT : T.length = 256) (h0 : Sl w A0 n0 (bV x)) (hb0 : -9223372036854775808 ≤ bit) (hb1 : bit < 9223372036854775808) :
    Calls Try.prog 6 #[.agg (tabV T).toArray, .int .u32 (s.toNat : Int), .slice A0 n0 c0, .int .i64 bit, .int .i64 n, .int .u32 (m.toNat : Int)] w (Ret fun v w' => v = .bool true ∧ Ext w w') := by
  apply calls6
  unfold S6
  apply newW_i
  have hblk : Blk (w.alloc (.cells (tabV T).toArray 31)) w.heap.size (tabV T) 31 := by simpa using Blk.new w (tabV T).toArray _
  have he0 : Ext w (w.alloc (.cells (tabV T).toArray 31)) := (Ext.refl w).alloc _
  have hlen : (tabV T).length = 256 := by rw [length_tabV, hT]
  generalize w.alloc (.cells (tabV T).toArray 31) = w0 at hblk he0 ⊢
  refine callW_of (lives_calls w0) ?_
  rintro _ w1 ⟨rfl, he1⟩
  refine ⟨_, rfl, ?_⟩
  refine splitW_f (by rfl) ?_
  have he01 := he0.trans he1
  refine splitW_i (fun h => ⟨rfl, he01⟩) (fun hl => ?_)
  have hl := of_decide_eq_false hl
  have l0 := h0.blen
  have he02 := he01.drew
  have hb2 := (hblk.ext he1).drew
  show (callW _ _ _ _ _) w1.drew
  generalize w1.drew = w3 at *
  refine callW_of (table_calls w3) ?_
  rintro _ w4 ⟨rfl, he4⟩
  refine ⟨(tabV table).toArray, rfl, ?_⟩
  refine callW_of (rtable_calls w4) ?_
  rintro _ w5 ⟨rfl, he5⟩
  refine ⟨(tabV table).toArray, rfl, ?_⟩
  refine ⟨true, fun w' => tab_eq w', ?_⟩
  refine splitW_t rfl ?_
  have he05 := (he02.trans he4).trans he5
  have hb5 := hb2.ext (he4.trans he5)
  have hT' : (tabV T).toArray.size = 256 := by simpa using hlen
  refine ldR_blk (cs := (tabV T).toArray) hb5 hT' ?_
  refine ldR_blk (cs := (tabV T).toArray) hb5 hT' ?_
  refine callW_of (update_calls hT (h0.ext he05)) ?_
  rintro _ w6 ⟨rfl, he6⟩
  refine ⟨_, rfl, ?_⟩
  refine held_one (hb5.ext he6) ?_
  refine callW_of (rupdate_calls hT ((h0.ext he05).ext he6)) ?_
  rintro _ w7 ⟨rfl, he7⟩
  refine ⟨_, rfl, ?_⟩
  refine splitW_t (by simp) ?_
  have he07 := (he05.trans he6).trans he7
  have hb7 := hb5.ext (he6.trans he7)
  refine ldR_blk (cs := (tabV T).toArray) hb7 hT' ?_
  refine ldR_blk (cs := (tabV T).toArray) hb7 hT' ?_
  refine callW_of (sum_calls hT (h0.ext he07)) ?_
  rintro _ w8 ⟨rfl, he8⟩
  refine ⟨_, rfl, ?_⟩
  refine held_one (hb7.ext he8) ?_
  refine callW_of (rsum_calls hT ((h0.ext he07).ext he8)) ?_
  rintro _ w9 ⟨rfl, he9⟩
  refine ⟨_, rfl, ?_⟩
  refine splitW_t (by simp) ?_
  have he09 := (he07.trans he8).trans he9
  refine callW_of (crc_calls (h0.ext he09)) ?_
  rintro _ w10 ⟨rfl, he10⟩
  refine ⟨_, rfl, ?_⟩
  refine callW_of (rcrc_calls ((h0.ext he09).ext he10)) ?_
  rintro _ w11 ⟨rfl, he11⟩
  refine ⟨_, rfl, ?_⟩
  refine splitW_t (by simp) ?_
  have he011 := (he09.trans he10).trans he11
  refine callW_of (flip_calls (k := n) (m := m) (h0.ext he011) (by omega) hb0 hb1) ?_
  rintro _ w12 ⟨⟨A7, n7, d7⟩, rfl, ho7, he7⟩
  refine ⟨_, rfl, ?_⟩
  dsimp only at ho7 ⊢
  refine callW_of (rflip_calls (k := n) (m := m) ((h0.ext he011).ext he7) (by omega) hb0 hb1) ?_
  rintro _ w13 ⟨⟨A8, n8, d8⟩, rfl, ho8, he8⟩
  refine ⟨_, rfl, ?_⟩
  dsimp only at ho8 ⊢
  refine callW_of (same_calls (ho7.sl.ext he8) ho8.sl) ?_
  rintro _ w14 ⟨rfl, he14⟩
  refine ⟨_, rfl, ?_, ((he011.trans he7).trans he8).trans he14⟩
  simp
end Go.Proofs.Ytoaobmfffcipfaa.V
