/- Laws of chapter 4. -/
import Derived.Test.YtlpgfcfkjkmiiaaKFrame2
import Derived.Test.YtlpgfcfkjkmiiaaKKit2
set_option linter.unusedVariables false
set_option linter.unusedSimpArgs false
namespace Go.Proofs.Ytlpgfcfkjkmiiaa.V
open Go Go.Proofs Go.RowKit Crc

def f0 : Fra := (3, 1, ⟨#[97, 98]⟩)
theorem f0_put : putR 128 f0 = (putB 128 f0, 0) := by
  have h : roomOf 128 = 112 := by kernel_rfl
  unfold putR
  rw [h, if_neg (by omega), if_neg (by decide)]
  rfl
theorem f0_len : (putB 128 f0).length = 128 := putB_length (by decide)
theorem f0_get : getR (putB 128 f0) = (f0, 0) := getR_putB (by kernel_rfl) (by omega) (by omega) (by decide) (by decide)
theorem f0_pre : (putB 128 f0).take 14 = [3, 0, 2, 0, 1, 0, 0, 0, 0, 0, 0, 0, 97, 98] := by
  have e : putB 128 f0 = (headB f0 ++ B f0.2.2) ++ (List.replicate (128 - 16 - (B f0.2.2).length) 0 ++ le 4 (crc (bodyB 128 f0)).toNat) := by simp [putB, bodyB]
  rw [e, List.take_left' (by rw [List.length_append, headB_length]; rfl)]
  rfl
theorem mk_size (l : List UInt8) : (⟨l.toArray⟩ : ByteArray).size = l.length := by rw [B_size, B_mk]
theorem mk_small {l : List UInt8} (h : l.length ≤ 5000) : (⟨l.toArray⟩ : ByteArray).size ≤ 9223372036854775807 := by rw [mk_size]; omega
theorem lives_calls (w : World) : Calls Try.prog 8 #[] w (Ret fun v w' => v = .bool true ∧ Ext w w') := by
  apply calls8
  unfold S8
  refine box_i (vs := fV f0) (by rfl) (fV_one f0) ?_ (by rfl)
  intro r1 w1 hb1 he1 _
  refine boxA (ls := fLs) (fT f0) hb1 rfl ?_
  refine callW_of (fput_calls w1 128 (f := f0) (by decide)) ?_
  rintro _ w2 ⟨rfl, he2⟩
  rw [f0_put]
  refine ⟨(⟨(putB 128 f0).toArray⟩, 0, ()), rfl, ?_⟩
  dsimp only
  refine callW_of (fget_calls w2 ⟨(putB 128 f0).toArray⟩ (mk_small (by rw [f0_len]; omega))) ?_
  rintro _ w3 ⟨rfl, he3⟩
  rw [B_mk, f0_get]
  refine ⟨(fT f0, 0, ()), rfl, ?_⟩
  refine boxed (f := f0) ?_
  intro r5 w4 hb5 he4 _
  have hb1 := ((hb1.ext he2).ext he3).ext he4
  have he := ((he1.trans he2).trans he3).trans he4
  refine splitW_t (by rfl) (splitW_t (by rw [mk_size, f0_len]; rfl) (splitW_t (by rfl) ?_))
  refine boxA (ls := fLs) (fT f0) hb5 rfl (boxA (ls := fLs) (fT f0) hb1 rfl ?_)
  refine ⟨_, fun w' => eql_fra w' f0 f0 _ _, splitW_t (fraEq_iff.2 rfl) ?_⟩
  refine ⟨⟨by omega, by rw [mk_size, f0_len]; omega⟩, ?_, he⟩
  rw [str_beq]
  refine congrArg Value.bool (decide_eq_true ?_)
  rw [B_extract, B_mk, show Int.toNat 14 - 0 = 14 from rfl, List.drop_zero, f0_pre]
  rfl
theorem fcalls_calls (w : World) {size : Int} {f : Fra} {block : ByteArray} {tag : UInt8} (hg : f.2.1 < 18446744073709551616) (hs : block.size ≤ 9223372036854775807) :
    Calls Try.prog 5 #[.int .i64 size, .agg (fV f).toArray, .string block, .int .u8 (tag.toNat : Int)] w (Ret fun v w' => v = .bool true ∧ Ext w w') := by
  apply calls5
  unfold S5
  refine new_i fun r1 w1 hb1 he1 _ _ => ?_
  have hb1 : Blk w1 r1 (fV f) 24 := hb1
  refine callW_of (lives_calls w1) ?_
  rintro _ w2 ⟨rfl, he2⟩
  refine ⟨_, rfl, splitW_f (by rfl) ?_⟩
  have hb1 := hb1.ext he2
  have he := he1.trans he2
  refine boxF 2 f.2.2 hb1 (by rfl) ?_
  refine splitW_i (fun _ => ⟨rfl, he⟩) (fun _ => splitW_i (fun _ => ⟨rfl, he⟩) (fun _ => ?_))
  refine boxA (ls := fLs) (fT f) hb1 rfl ?_
  refine callW_of (fput_calls w2 size hg) ?_
  rintro _ w3 ⟨rfl, he3⟩
  refine ⟨(⟨(putR size f).1.toArray⟩, (putR size f).2, ()), rfl, ?_⟩
  have hb1 := hb1.ext he3
  have he := he.trans he3
  refine boxA (ls := fLs) (fT f) hb1 rfl ?_
  refine callW_of (rfput_calls w3 size hg) ?_
  rintro _ w4 ⟨rfl, he4⟩
  refine ⟨(⟨(putR size f).1.toArray⟩, (putR size f).2, ()), rfl, ?_⟩
  have he := he.trans he4
  refine callW_of (fget_calls w4 block hs) ?_
  rintro _ w5 ⟨rfl, he5⟩
  refine ⟨(fT (getR (B block)).1, (getR (B block)).2, ()), rfl, ?_⟩
  have he := he.trans he5
  refine boxed (f := (getR (B block)).1) fun r9 w6 hb9 he6 _ => ?_
  have he := he.trans he6
  refine callW_of (rfget_calls w6 block hs) ?_
  rintro _ w7 ⟨rfl, he7⟩
  refine ⟨(fT (getR (B block)).1, (getR (B block)).2, ()), rfl, ?_⟩
  have he := he.trans he7
  have hb9 := hb9.ext he7
  refine boxed (f := (getR (B block)).1) fun r11 w8 hb11 he8 _ => ?_
  have he := he.trans he8
  have hb9 := hb9.ext he8
  refine callW_of (fkind_calls w8 block hs tag) ?_
  rintro _ w9 ⟨rfl, he9⟩
  refine ⟨(fT (kindR (B block) tag).1, (kindR (B block) tag).2, ()), rfl, ?_⟩
  have he := he.trans he9
  have hb9 := hb9.ext he9
  have hb11 := hb11.ext he9
  refine boxed (f := (kindR (B block) tag).1) fun r13 w10 hb13 he10 _ => ?_
  have he := he.trans he10
  have hb9 := hb9.ext he10
  have hb11 := hb11.ext he10
  refine callW_of (rfkind_calls w10 block hs tag) ?_
  rintro _ w11 ⟨rfl, he11⟩
  refine ⟨(fT (kindR (B block) tag).1, (kindR (B block) tag).2, ()), rfl, ?_⟩
  have he := he.trans he11
  have hb9 := hb9.ext he11
  have hb11 := hb11.ext he11
  have hb13 := hb13.ext he11
  refine boxed (f := (kindR (B block) tag).1) fun r15 w12 hb15 he12 _ => ?_
  have he := he.trans he12
  have hb9 := hb9.ext he12
  have hb11 := hb11.ext he12
  have hb13 := hb13.ext he12
  refine splitW_t (by simp) (splitW_t (by simp) ?_)
  refine boxA (ls := fLs) (fT (getR (B block)).1) hb9 rfl (boxA (ls := fLs) (fT (getR (B block)).1) hb11 rfl ?_)
  refine ⟨_, fun w' => eql_fra w' (getR (B block)).1 (getR (B block)).1 _ _, splitW_t (fraEq_iff.2 rfl) (splitW_t (by simp) ?_)⟩
  refine boxA (ls := fLs) (fT (kindR (B block) tag).1) hb13 rfl (boxA (ls := fLs) (fT (kindR (B block) tag).1) hb15 rfl ?_)
  refine ⟨_, fun w' => eql_fra w' (kindR (B block) tag).1 (kindR (B block) tag).1 _ _, splitW_t (fraEq_iff.2 rfl) (splitW_t (by simp) ?_)⟩
  refine callW_of (room_calls w12 size) ?_
  rintro _ w13 ⟨rfl, he13⟩
  refine ⟨_, rfl, ?_⟩
  refine callW_of (refroom_calls w13 size) ?_
  rintro _ w14 ⟨rfl, he14⟩
  exact ⟨_, rfl, by simp, (he.trans he13).trans he14⟩
theorem fback_calls (w : World) {size : Int} {f : Fra} {block : ByteArray} (hg : f.2.1 < 18446744073709551616) (hs : block.size ≤ 9223372036854775807) :
    Calls Try.prog 3 #[.int .i64 size, .agg (fV f).toArray, .string block] w (Ret fun v w' => v = .bool true ∧ Ext w w') := by
  apply calls3
  unfold S3
  refine new_i fun r1 w1 hb1 he1 _ _ => ?_
  have hb1 : Blk w1 r1 (fV f) 24 := hb1
  refine callW_of (lives_calls w1) ?_
  rintro _ w2 ⟨rfl, he2⟩
  refine ⟨_, rfl, splitW_f (by rfl) ?_⟩
  have hb1 := hb1.ext he2
  have he := he1.trans he2
  refine boxF 2 f.2.2 hb1 (by rfl) ?_
  refine splitW_i (fun _ => ⟨rfl, he⟩) (fun _ => splitW_i (fun _ => ⟨rfl, he⟩) (fun _ => ?_))
  refine boxA (ls := fLs) (fT f) hb1 rfl ?_
  refine callW_of (fput_calls w2 size hg) ?_
  rintro _ w3 ⟨rfl, he3⟩
  refine ⟨(⟨(putR size f).1.toArray⟩, (putR size f).2, ()), rfl, ?_⟩
  have hb1 := hb1.ext he3
  have he := he.trans he3
  dsimp only
  refine joinW_s (fun _ w' => Ext w w') ?_ (fun J hJ => ?_)
  · rintro _ w4 he
    refine callW_of (fget_calls w4 block hs) ?_
    rintro _ w5 ⟨rfl, he5⟩
    refine ⟨(fT (getR (B block)).1, (getR (B block)).2, ()), rfl, ?_⟩
    have he := he.trans he5
    refine boxed (f := (getR (B block)).1) fun r9 w6 hb9 he6 _ => ?_
    have he := he.trans he6
    refine splitW_i (fun hz => ?_) (fun hz => ?_)
    · have hz := bne_iff_ne.1 hz
      refine boxA (ls := fLs) (fT (getR (B block)).1) hb9 rfl ?_
      refine ⟨_, fun w' => eql_fra w' (getR (B block)).1 fra0 _ _, ?_, he⟩
      rw [getR_bad hz, fraEq_iff.2 rfl]
    · have hz := bne_eq_false_iff_eq.1 hz
      obtain ⟨e1, e2⟩ := getR_ok hz
      refine boxA (ls := fLs) (fT (getR (B block)).1) hb9 rfl ?_
      refine callW_of (fput_calls w6 (block.size : Nat) (getR_gen _)) ?_
      rintro _ w7 ⟨rfl, he7⟩
      rw [B_size, e1, e2]
      refine ⟨(⟨(B block).toArray⟩, 0, ()), rfl, splitW_t (by rfl) ⟨?_, he.trans he7⟩⟩
      dsimp only
      rw [str_beq, B_mk, decide_eq_true rfl]
  refine splitW_i (fun hz => ?_) (fun hz => hJ _ _ he)
  have hz := beq_iff_eq.1 hz
  obtain ⟨k1, k2, k3, k4, k5⟩ := putR_ok hz
  obtain ⟨sz, rfl⟩ : ∃ sz : Nat, size = sz := ⟨size.toNat, by omega⟩
  rw [Int.toNat_natCast] at k4 k5
  have hlen := putB_length k4
  rw [k5]
  refine callW_of (fget_calls w3 ⟨(putB sz f).toArray⟩ (mk_small (by omega))) ?_
  rintro _ w5 ⟨rfl, he5⟩
  rw [B_mk, getR_putB k1 (by omega) (by omega) k4 hg]
  refine ⟨(fT f, 0, ()), rfl, ?_⟩
  have hb1 := hb1.ext he5
  have he := he.trans he5
  refine boxed (f := f) fun r9 w6 hb9 he6 _ => ?_
  have hb1 := hb1.ext he6
  have he := he.trans he6
  refine draw_i fun w7 he7 _ _ => ?_
  have hb1 := hb1.ext he7
  have hb9 := hb9.ext he7
  have he := he.trans he7
  refine splitW_f (by rfl) ?_
  refine boxA (ls := fLs) (fT f) hb9 rfl (boxA (ls := fLs) (fT f) hb1 rfl ?_)
  refine ⟨_, fun w' => neq_fra w' f f _ _, splitW_f (by rw [fraEq_iff.2 rfl]; rfl) ?_⟩
  refine splitW_f (by rw [mk_size, hlen]; simp) ?_
  refine boxF 2 f.2.2 hb1 (by rfl) ?_
  refine callW_of (room_calls w7 (sz : Nat)) ?_
  rintro _ w8 ⟨rfl, he8⟩
  refine ⟨_, rfl, ?_⟩
  have hb1 := hb1.ext he8
  refine ⟨fun l hl p hp => ?_, ?_⟩
  · simp only [List.mem_singleton] at hl
    subst hl
    simp only [List.mem_singleton] at hp
    subst hp
    rw [add_mk, hb1.cell]
    rfl
  have hds := B_size f.2.2
  exact splitW_f (decide_eq_false (by omega)) (hJ _ _ (he.trans he8))
/-! ### Bits turned -/
theorem rot_told {sz : Nat} {f : Fra} {bit n : Nat} {m : W32} (hr : roomOf sz = (sz : Int) - 16) (h1 : 128 ≤ sz) (h2 : sz ≤ 4096) (hd : (B f.2.2).length + 16 ≤ sz) (hn : n ≤ 32) (hne : Crc.flip (putB sz f) bit n m ≠ putB sz f) : getR (Crc.flip (putB sz f) bit n m) = (fra0, 10) := by
  have hlen := putB_length hd
  have hfl := Crc.length_flip (putB sz f) bit n m
  have hgood : (crc ((putB sz f).take ((putB sz f).length - 4))).toNat = lev ((putB sz f).drop ((putB sz f).length - 4)) := by
    have hbl := bodyB_length hd
    have hlt := (crc (bodyB sz f)).isLt
    rw [hlen]
    have e1 : (putB sz f).take (sz - 4) = bodyB sz f := by unfold putB; rw [List.take_left' hbl]
    have e2 : (putB sz f).drop (sz - 4) = le 4 (crc (bodyB sz f)).toNat := by unfold putB; rw [List.drop_left' hbl]
    rw [e1, e2, lev_le]
    omega
  refine getR_10 (by rw [hfl, hlen]; omega) fun hbad => hne ?_
  have g1 := (good_iff (x := putB sz f) (by omega)).1 hgood
  have g2 := (good_iff (x := Crc.flip (putB sz f) bit n m) (by omega)).1 hbad
  exact flip_told hn (g2.trans g1.symm)
theorem frot_calls (w : World) {size bit n : Int} {f : Fra} {m : W32} (hg : f.2.1 < 18446744073709551616) (hb0 : -9223372036854775808 ≤ bit) (hb1 : bit < 9223372036854775808) (hn0 : -9223372036854775808 ≤ n) (hn1 : n < 9223372036854775808) :
    Calls Try.prog 6 #[.int .i64 size, .agg (fV f).toArray, .int .i64 bit, .int .i64 n, .int .u32 (m.toNat : Int)] w (Ret fun v w' => v = .bool true ∧ Ext w w') := by
  apply calls6
  unfold S6
  refine new_i fun r1 w1 hbk1 he1 _ _ => ?_
  have hbk1 : Blk w1 r1 (fV f) 24 := hbk1
  refine callW_of (lives_calls w1) ?_
  rintro _ w2 ⟨rfl, he2⟩
  refine ⟨_, rfl, splitW_f (by rfl) ?_⟩
  have hbk1 := hbk1.ext he2
  have he := he1.trans he2
  refine boxF 2 f.2.2 hbk1 (by rfl) ?_
  refine splitW_i (fun _ => ⟨rfl, he⟩) (fun _ => ?_)
  refine boxA (ls := fLs) (fT f) hbk1 rfl ?_
  refine callW_of (fput_calls w2 size hg) ?_
  rintro _ w3 ⟨rfl, he3⟩
  refine ⟨(⟨(putR size f).1.toArray⟩, (putR size f).2, ()), rfl, ?_⟩
  have hbk1 := hbk1.ext he3
  have he := he.trans he3
  dsimp only
  refine splitW_i (fun hz => ⟨?_, he⟩) (fun hz => ?_)
  · have hz := bne_iff_ne.1 hz
    have : (putR size f).1 = [] := by
      unfold putR at hz ⊢
      split
      · rfl
      · split
        · rfl
        · rename_i a b
          rw [if_neg a, if_neg b] at hz
          exact absurd rfl hz
    rw [str_beq, B_mk, this]
    rfl
  have hz := bne_eq_false_iff_eq.1 hz
  obtain ⟨k1, k2, k3, k4, k5⟩ := putR_ok hz
  obtain ⟨sz, rfl⟩ : ∃ sz : Nat, size = sz := ⟨size.toNat, by omega⟩
  rw [Int.toNat_natCast] at k4 k5
  have hlen := putB_length k4
  rw [k5]
  refine conv_bytes (u := .string) (e := 5) (by kernel_rfl) (by kernel_rfl) (by kernel_rfl) (mk_small (by omega)) ?_
  intro c w4 hsl he4 _ _
  rw [B_mk] at hsl
  have he := he.trans he4
  have hbk1 := hbk1.ext he4
  rw [wrap_i64 (x := (8 : Int) * (sz : Int)) (by omega) (by omega)]
  refine callW_of (pick_calls w4 hb0 hb1 (by omega)) ?_
  rintro _ w4 ⟨rfl, hw⟩
  subst hw
  refine ⟨_, rfl, ?_⟩
  refine callW_of (pick_calls w4 hn0 hn1 (by omega)) ?_
  rintro _ w4 ⟨rfl, hw⟩
  subst hw
  refine ⟨_, rfl, ?_⟩
  have hpb : 0 ≤ pick bit (8 * (sz : Int)) ∧ pick bit (8 * (sz : Int)) < 8 * (sz : Int) := by
    unfold pick
    rw [if_neg (by omega)]
    exact ⟨Int.emod_nonneg _ (by omega), Int.emod_lt_of_pos _ (by omega)⟩
  have hpn : 0 ≤ pick n 33 ∧ pick n 33 < 33 := by
    unfold pick
    rw [if_neg (by omega)]
    omega
  refine callW_of (rflip_calls hsl (by dsimp only; rw [mk_size, hlen]; omega) (by omega) (by omega)) ?_
  rintro _ w5 ⟨⟨A5, n5, c5⟩, rfl, ho5, he5⟩
  refine ⟨(A5, n5, c5), rfl, ?_⟩
  have he := he.trans he5
  have hbk1 := hbk1.ext he5
  dsimp only at ho5 ⊢
  have efl : flipG (putB sz f) (pick bit (8 * (sz : Int))) (pick n 33) m = Crc.flip (putB sz f) (pick bit (8 * (sz : Int))).toNat (pick n 33).toNat m := by
    unfold flipG
    rw [if_neg (by omega)]
  rw [efl] at ho5
  have hfl := Crc.length_flip (putB sz f) (pick bit (8 * (sz : Int))).toNat (pick n 33).toNat m
  have hrot := fun h => rot_told (f := f) (bit := (pick bit (8 * (sz : Int))).toNat) (n := (pick n 33).toNat) (m := m) k1 (by omega) (by omega) k4 (by omega) h
  generalize Crc.flip (putB sz f) (pick bit (8 * (sz : Int))).toNat (pick n 33).toNat m = fb at ho5 hfl hrot
  have conv : ∀ {w' : World} {K : ByteArray → WP}, Ext w5 w' → K ⟨fb.toArray⟩ w' → runW Try.prog (convert 37 9 (.slice A5 n5 c5)) .str K w' := fun hx hk =>
    conv_str (e := 5) (by kernel_rfl) (by kernel_rfl) (by kernel_rfl) (ho5.ext hx).sl hk
  refine conv (Ext.refl _) ?_
  have hfs : (⟨fb.toArray⟩ : ByteArray).size ≤ 9223372036854775807 := mk_small (by omega)
  refine callW_of (fget_calls w5 ⟨fb.toArray⟩ hfs) ?_
  rintro _ w6 ⟨rfl, he6⟩
  refine ⟨(fT (getR fb).1, (getR fb).2, ()), rfl, ?_⟩
  refine boxed (f := (getR fb).1) fun r9 w7 hb9 he7 _ => ?_
  have hx := he6.trans he7
  refine conv hx ?_
  refine box0 (f.1.toNat : Int) (hbk1.ext hx) (by rfl) ?_
  refine callW_of (fkind_calls w7 ⟨fb.toArray⟩ hfs f.1) ?_
  rintro _ w8 ⟨rfl, he8⟩
  refine ⟨(fT (kindR fb f.1).1, (kindR fb f.1).2, ()), rfl, ?_⟩
  have hx := hx.trans he8
  refine boxed (f := (kindR fb f.1).1) fun r10 w9 hb10 he9 _ => ?_
  have hx := hx.trans he9
  refine conv hx ?_
  have he := he.trans hx
  by_cases hsame : fb = putB sz f
  · subst hsame
    have hg2 := getR_putB k1 (by omega) (by omega) k4 hg
    have hk : kindR (putB sz f) f.1 = (f, 0) := by unfold kindR; rw [hg2, if_neg (by simp)]
    rw [hg2, hk]
    exact splitW_t (by simp) (splitW_t (by rfl) ⟨rfl, he⟩)
  · have hg2 := hrot hsame
    have hk : kindR fb f.1 = (fra0, 10) := by unfold kindR; rw [hg2, if_neg (by simp)]
    rw [hg2, hk]
    refine splitW_f ?_ (splitW_t (by rfl) ⟨rfl, he⟩)
    rw [str_beq]
    exact decide_eq_false hsame
theorem fapart_calls (w : World) {size : Int} {f g : Fra} (hf : f.2.1 < 18446744073709551616) (hg : g.2.1 < 18446744073709551616) :
    Calls Try.prog 7 #[.int .i64 size, .agg (fV f).toArray, .agg (fV g).toArray] w (Ret fun v w' => v = .bool true ∧ Ext w w') := by
  apply calls7
  unfold S7
  refine new_i fun r1 w0 hb1 he0 _ _ => ?_
  have hb1 : Blk w0 r1 (fV f) 24 := hb1
  refine new_i fun r2 w1 hb2 he1 _ _ => ?_
  have hb2 : Blk w1 r2 (fV g) 24 := hb2
  have hb1 := hb1.ext he1
  have he := he0.trans he1
  refine callW_of (lives_calls w1) ?_
  rintro _ w2 ⟨rfl, he2⟩
  refine ⟨_, rfl, splitW_f (by rfl) ?_⟩
  have hb1 := hb1.ext he2
  have hb2 := hb2.ext he2
  have he := he.trans he2
  refine boxF 2 f.2.2 hb1 (by rfl) ?_
  refine splitW_i (fun _ => ⟨rfl, he⟩) (fun _ => ?_)
  refine boxF 2 g.2.2 hb2 (by rfl) ?_
  refine splitW_i (fun _ => ⟨rfl, he⟩) (fun _ => ?_)
  refine boxA (ls := fLs) (fT f) hb1 rfl ?_
  refine callW_of (fput_calls w2 size hf) ?_
  rintro _ w3 ⟨rfl, he3⟩
  refine ⟨(⟨(putR size f).1.toArray⟩, (putR size f).2, ()), rfl, ?_⟩
  have hb1 := hb1.ext he3
  have hb2 := hb2.ext he3
  have he := he.trans he3
  refine boxA (ls := fLs) (fT g) hb2 rfl ?_
  refine callW_of (fput_calls w3 size hg) ?_
  rintro _ w4 ⟨rfl, he4⟩
  refine ⟨(⟨(putR size g).1.toArray⟩, (putR size g).2, ()), rfl, ?_⟩
  have hb1 := hb1.ext he4
  have hb2 := hb2.ext he4
  have he := he.trans he4
  dsimp only
  refine splitW_i (fun _ => ⟨rfl, he⟩) (fun hz => splitW_i (fun _ => ⟨rfl, he⟩) (fun hz2 => ?_))
  obtain ⟨k1, k2, k3, k4, k5⟩ := putR_ok (bne_eq_false_iff_eq.1 hz)
  obtain ⟨_, _, _, j4, j5⟩ := putR_ok (bne_eq_false_iff_eq.1 hz2)
  obtain ⟨sz, rfl⟩ : ∃ sz : Nat, size = sz := ⟨size.toNat, by omega⟩
  rw [Int.toNat_natCast] at k4 k5 j4 j5
  have hlen := putB_length k4
  have hgf := getR_putB k1 (by omega) (by omega) k4 hf
  have hgg := getR_putB k1 (by omega) (by omega) j4 hg
  rw [k5, j5]
  refine box0 (g.1.toNat : Int) hb2 (by rfl) ?_
  refine callW_of (fkind_calls w4 ⟨(putB sz f).toArray⟩ (mk_small (by omega)) g.1) ?_
  rintro _ w5 ⟨rfl, he5⟩
  have hk : kindR (putB sz f) g.1 = if f.1 ≠ g.1 then (fra0, 11) else (f, 0) := by
    unfold kindR
    rw [hgf]
    by_cases h : f.1 = g.1
    · simp [h]
    · simp [h]
  rw [B_mk, hk]
  refine ⟨(fT (if f.1 ≠ g.1 then (fra0, (11 : Int)) else (f, 0)).1, (if f.1 ≠ g.1 then (fra0, (11 : Int)) else (f, 0)).2, ()), rfl, ?_⟩
  have hb1 := hb1.ext he5
  have hb2 := hb2.ext he5
  have he := he.trans he5
  refine boxed fun r12 w6 hb12 he6 _ => ?_
  have hb1 := hb1.ext he6
  have hb2 := hb2.ext he6
  have he := he.trans he6
  refine callW_of (fget_calls w6 ⟨(putB sz f).toArray⟩ (mk_small (by omega))) ?_
  rintro _ w7 ⟨rfl, he7⟩
  rw [B_mk, hgf]
  refine ⟨(fT f, 0, ()), rfl, ?_⟩
  have hb1 := hb1.ext he7
  have hb2 := hb2.ext he7
  have hb12 := hb12.ext he7
  have he := he.trans he7
  refine boxed (f := f) fun r14 w8 hb14 he8 _ => ?_
  have hb1 := hb1.ext he8
  have hb2 := hb2.ext he8
  have hb12 := hb12.ext he8
  have he := he.trans he8
  refine joinW_s (fun (y : Bool × Unit) w' => y.1 = true ∧ Ext w w') ?_ (fun J hJ => ?_)
  · rintro ⟨y, _⟩ w' ⟨rfl, hx⟩
    exact ⟨rfl, hx⟩
  refine boxA (ls := fLs) (fT f) hb1 rfl (boxA (ls := fLs) (fT g) hb2 rfl ?_)
  refine ⟨_, fun w' => eql_fra w' f g _ _, splitW_t ?_ (splitW_t (by rfl) ?_)⟩
  · rw [str_beq, B_mk, B_mk, beq_iff_eq, Bool.eq_iff_iff, decide_eq_true_iff, fraEq_iff]
    constructor
    · intro h
      have := hgf.symm.trans (h ▸ hgg)
      exact (Prod.mk.inj this).1
    · rintro rfl; rfl
  refine box0 (f.1.toNat : Int) hb1 (by rfl) (box0 (g.1.toNat : Int) hb2 (by rfl) ?_)
  by_cases hfg : f.1 = g.1
  · have e1 : (if f.1 ≠ g.1 then (fra0, (11 : Int)) else (f, 0)) = (f, 0) := if_neg (by simpa using hfg)
    rw [e1] at hb12 ⊢
    refine splitW_t (by rw [hfg]; simp) (splitW_t (by rfl) ?_)
    refine boxA (ls := fLs) (fT f) hb12 rfl (boxA (ls := fLs) (fT f) hb1 rfl ?_)
    exact ⟨_, fun w' => eql_fra w' f f _ _, splitW_t (fraEq_iff.2 rfl) (hJ _ _ ⟨rfl, he⟩)⟩
  · have e1 : (if f.1 ≠ g.1 then (fra0, (11 : Int)) else (f, 0)) = (fra0, 11) := if_pos hfg
    rw [e1] at hb12 ⊢
    have hne : (f.1.toNat : Int) ≠ (g.1.toNat : Int) := fun e => hfg (UInt8.toNat_inj.1 (by omega))
    refine splitW_f (beq_eq_false_iff_ne.2 hne) ?_
    refine box0 (f.1.toNat : Int) hb1 (by rfl) (box0 (g.1.toNat : Int) hb2 (by rfl) ?_)
    refine splitW_t (bne_iff_ne.2 hne) (splitW_t (by rfl) ?_)
    refine boxA (ls := fLs) (fT fra0) hb12 rfl ?_
    exact ⟨_, fun w' => eql_fra w' fra0 fra0 _ _, hJ _ _ ⟨show fraEq fra0 fra0 = true from fraEq_iff.2 rfl, he⟩⟩
end Go.Proofs.Ytlpgfcfkjkmiiaa.V
