/- The examples of chapter 11. -/
import Derived.Test.YtiiemgndnpflbaaL2
set_option linter.unusedVariables false
set_option linter.unusedSimpArgs false
namespace Go.Proofs.Ytiiemgndnpflbaa.V
open Go Go.Proofs Go.RowKit Crc

theorem cho_z : chooseS zeros zeros = (-1, sup0, 10) := by
  unfold chooseS
  rw [if_pos ⟨by rw [zeros_get]; omega, by rw [zeros_get]; omega⟩]
theorem cho_3 : chooseS (putS (smallS 4 3)).1 (putS (smallS 4 5)).1 = (0, smallS 4 3, 0) := by
  unfold chooseS
  rw [small_get 4 3 (by omega) (by omega) (.inr (by omega)), small_get 4 5 (by omega) (by omega) (.inr (by omega)), if_neg (by simp), if_neg (by simp [smallS])]
def twiceS : Sup := ⟨1, 128, 8, 0, [2, 2]⟩
def outS : Sup := ⟨1, 128, 8, 0, [8]⟩
def wideS (i : Nat) : Sup := ⟨1, 128, 1400, 0, (List.range i).map fun k => 2 + k⟩
theorem chk_twice : chk twiceS = 2 := by kernel_rfl
theorem chk_out : chk outS = 2 := by kernel_rfl
theorem chk_far : chk (smallS 1 8) = 2 := by kernel_rfl
theorem chk_root : chk (smallS 1 2) = 2 := by kernel_rfl
theorem chk_none : chk (smallS 0 0) = 2 := by kernel_rfl
theorem chk_wide : chk (wideS 25) = 3 := by kernel_rfl
theorem wide_fits : (wideS 25).Fits := ⟨by decide, by dsimp only [wideS]; omega, by dsimp only [wideS]; omega, by decide, by intro p hp; simp [wideS] at hp; omega⟩
def f9 : Fra := (9, 0, ByteArray.empty)
def fsh : Fra := (1, 1, ⟨#[115, 104, 111, 114, 116]⟩)
theorem r128 : roomOf 128 = 112 := by kernel_rfl
theorem put_9 : putR 128 f9 = (putB 128 f9, 0) := by
  unfold putR
  rw [r128, if_neg (by omega), if_neg (by decide)]
  rfl
theorem put_sh : putR 128 fsh = (putB 128 fsh, 0) := by
  unfold putR
  rw [r128, if_neg (by omega), if_neg (by decide)]
  rfl
theorem get_9 : (getS (putB 128 f9)).2 = 11 := by
  have e : getR (putB 128 f9) = (f9, 0) := getR_putB (by kernel_rfl) (by omega) (by omega) (by decide) (by decide)
  have k : (kindR (putB 128 f9) 1).2 = 11 := by unfold kindR; rw [e]; rfl
  rw [getS_e (by rw [k]; omega)]
  dsimp only
  exact k
theorem get_sh : (getS (putB 128 fsh)).2 = 4 := by
  have e : getR (putB 128 fsh) = (fsh, 0) := getR_putB (by kernel_rfl) (by omega) (by omega) (by decide) (by decide)
  have k : kindR (putB 128 fsh) 1 = (fsh, 0) := by unfold kindR; rw [e]; rfl
  rw [getS_short (by rw [k]) (by rw [k]; decide)]
theorem put_len {f : Fra} (h : (B f.2.2).length + 16 ≤ 128) : (mk (putB 128 f)).size ≤ 9223372036854775807 := by
  rw [mk_size', putB_length h]; omega
theorem names_calls (w : World) : Calls Try.prog 5 #[] w (Ret fun v w' => v = .bool true ∧ Ext w w') := by
  apply calls5
  unfold S5
  refine callW_of (lives_calls w) ?_
  rintro _ w1 ⟨rfl, he⟩
  refine ⟨_, rfl, splitW_f (by rfl) ?_⟩
  refine callW_of (small_calls (gen := 9) (root := 7)) ?_
  rintro _ w2 ⟨x2, rfl, hp2, he2⟩
  refine ⟨sT (smallS 9 7) x2, rfl, ?_⟩
  refine callW_of (putk_calls (small_fits (by omega) (by omega)) hp2) ?_
  rintro _ w3 ⟨rfl, he3⟩
  refine ⟨_, rfl, ?_⟩
  refine callW_of (sget_calls w3 _ putS_mk) ?_
  rintro _ w4 ⟨x4, rfl, hp4, he4, _⟩
  rw [B_mk', small_get 9 7 (by omega) (by omega) (.inr (by omega))] at hp4 ⊢
  refine ⟨(sT (smallS 9 7) x4, 0, ()), rfl, ?_⟩
  dsimp only at hp4 ⊢
  refine boxedS (s := smallS 9 7) (x := x4) rfl fun r5 w5 hb5 he5 _ => ?_
  have hp4 := hp4.ext he5
  have he := (((he.trans he2).trans he3).trans he4).trans he5
  refine callW_of (nought_calls w5) ?_
  rintro _ w5 ⟨rfl, hw⟩
  subst hw
  refine ⟨_, rfl, ?_⟩
  refine callW_of (nought_calls w5) ?_
  rintro _ w5 ⟨rfl, hw⟩
  subst hw
  refine ⟨_, rfl, ?_⟩
  have hzs : (mk zeros).size ≤ 9223372036854775807 := by rw [mk_size', zeros_len]; omega
  refine callW_of (choose_calls w5 _ _ hzs hzs) ?_
  rintro _ w6 ⟨x8, rfl, _, he6, _⟩
  rw [B_mk', cho_z]
  refine ⟨(-1, sT sup0 x8, 10, ()), rfl, ?_⟩
  dsimp only
  refine boxedS (s := sup0) (x := x8) rfl fun r9 w7 _ he7 _ => ?_
  refine callW_of (small_calls (gen := 4) (root := 3)) ?_
  rintro _ w8 ⟨x10, rfl, hp10, he8⟩
  refine ⟨sT (smallS 4 3) x10, rfl, ?_⟩
  refine callW_of (putk_calls (small_fits (by omega) (by omega)) hp10) ?_
  rintro _ w9 ⟨rfl, he9⟩
  refine ⟨_, rfl, ?_⟩
  refine callW_of (small_calls (gen := 4) (root := 5)) ?_
  rintro _ w10 ⟨x12, rfl, hp12, he10⟩
  refine ⟨sT (smallS 4 5) x12, rfl, ?_⟩
  refine callW_of (putk_calls (small_fits (by omega) (by omega)) hp12) ?_
  rintro _ w11 ⟨rfl, he11⟩
  refine ⟨_, rfl, ?_⟩
  refine callW_of (choose_calls w11 _ _ putS_mk putS_mk) ?_
  rintro _ w12 ⟨x14, rfl, _, he12, _⟩
  rw [B_mk', B_mk', cho_3]
  refine ⟨(0, sT (smallS 4 3) x14, 0, ()), rfl, ?_⟩
  dsimp only
  refine boxedS (s := smallS 4 3) (x := x14) rfl fun r15 w13 hb15 he13 _ => ?_
  have e513 := ((((((he6.trans he7).trans he8).trans he9).trans he10).trans he11).trans he12).trans he13
  have he := he.trans e513
  have hb5 := hb5.ext e513
  have hp4 := hp4.ext e513
  refine callW_of (nought_calls w13) ?_
  rintro _ w13 ⟨rfl, hw⟩
  subst hw
  refine ⟨_, rfl, ?_⟩
  refine callW_of (sget_calls w13 _ hzs) ?_
  rintro _ w14 ⟨x17, rfl, _, he14, _⟩
  rw [B_mk', zeros_get]
  generalize (getS zeros).1 = gz
  refine ⟨(sT gz x17, 10, ()), rfl, ?_⟩
  dsimp only
  refine boxedS (s := gz) (x := x17) rfl fun r18 w15 _ he15 _ => ?_
  refine callW_of (small_calls (gen := 1) (root := 0)) ?_
  rintro _ w16 ⟨x19, rfl, hp19, he16⟩
  refine ⟨sT (smallS 1 0) x19, rfl, ?_⟩
  refine callW_of (small_calls (gen := 1) (root := 0)) ?_
  rintro _ w17 ⟨x20, rfl, hp20, he17⟩
  refine ⟨sT (smallS 1 0) x20, rfl, ?_⟩
  refine callW_of (small_calls (gen := 1) (root := 8)) ?_
  rintro _ w18 ⟨x21, rfl, hp21, he18⟩
  refine ⟨sT (smallS 1 8) x21, rfl, ?_⟩
  refine callW_of (small_calls (gen := 1) (root := 2)) ?_
  rintro _ w19 ⟨x22, rfl, hp22, he19⟩
  refine ⟨sT (smallS 1 2) x22, rfl, ?_⟩
  refine callW_of (small_calls (gen := 0) (root := 0)) ?_
  rintro _ wA ⟨x23, rfl, hp23, he20⟩
  refine ⟨sT (smallS 0 0) x23, rfl, ?_⟩
  have eA := (((((he14.trans he15).trans he16).trans he17).trans he18).trans he19).trans he20
  have he := he.trans eA
  have hb5 := hb5.ext eA
  have hb15 := hb15.ext eA
  have hp4 := hp4.ext eA
  have hp21 := (hp21.ext he19).ext he20
  have hp22 := hp22.ext he20
  clear he2 he3 he4 he5 he6 he7 he8 he9 he10 he11 he12 he13 he14 he15 he16 he17 he18 he19 he20 eA e513
  refine new_i fun r24 wb1 hb24 eb1 hr24 hz1 => ?_
  refine new_i fun r25 wb2 hb25 eb2 hr25 hz2 => ?_
  refine new_i fun r26 wb3 hb26 eb3 hr26 hz3 => ?_
  refine new_i fun r27 wb4 hb27 eb4 hr27 hz4 => ?_
  refine new_i fun r28 wb5 hb28 eb5 hr28 hz5 => ?_
  have hb24 := (((hb24.ext eb2).ext eb3).ext eb4).ext eb5
  have hb25 := ((hb25.ext eb3).ext eb4).ext eb5
  have hb26 := (hb26.ext eb4).ext eb5
  have hb27 := hb27.ext eb5
  have eA : Ext wA wb5 := (((eb1.trans eb2).trans eb3).trans eb4).trans eb5
  refine refill (vs := sV (smallS 1 0) x19) hb24 rfl (sV_one _ _) rfl ?_
  intro wc1 hb24 hx hk hz
  have eA := hx wA eA (by omega)
  have hb25 : Blk wc1 r25 _ _ := (hk r25 (by omega)).trans hb25
  have hb26 : Blk wc1 r26 _ _ := (hk r26 (by omega)).trans hb26
  have hb27 : Blk wc1 r27 _ _ := (hk r27 (by omega)).trans hb27
  have hb28 : Blk wc1 r28 _ _ := (hk r28 (by omega)).trans hb28
  refine refill (vs := sV (smallS 1 0) x20) hb25 rfl (sV_one _ _) rfl ?_
  intro wc2 hb25 hx hk hz
  have eA := hx wA eA (by omega)
  have hb24 : Blk wc2 r24 _ _ := (hk r24 (by omega)).trans hb24
  have hb26 : Blk wc2 r26 _ _ := (hk r26 (by omega)).trans hb26
  have hb27 : Blk wc2 r27 _ _ := (hk r27 (by omega)).trans hb27
  have hb28 : Blk wc2 r28 _ _ := (hk r28 (by omega)).trans hb28
  refine refill (vs := sV (smallS 1 8) x21) hb26 rfl (sV_one _ _) rfl ?_
  intro wc3 hb26 hx hk hz
  have eA := hx wA eA (by omega)
  have hb24 : Blk wc3 r24 _ _ := (hk r24 (by omega)).trans hb24
  have hb25 : Blk wc3 r25 _ _ := (hk r25 (by omega)).trans hb25
  have hb27 : Blk wc3 r27 _ _ := (hk r27 (by omega)).trans hb27
  have hb28 : Blk wc3 r28 _ _ := (hk r28 (by omega)).trans hb28
  refine refill (vs := sV (smallS 1 2) x22) hb27 rfl (sV_one _ _) rfl ?_
  intro wc4 hb27 hx hk hz
  have eA := hx wA eA (by omega)
  have hb24 : Blk wc4 r24 _ _ := (hk r24 (by omega)).trans hb24
  have hb25 : Blk wc4 r25 _ _ := (hk r25 (by omega)).trans hb25
  have hb26 : Blk wc4 r26 _ _ := (hk r26 (by omega)).trans hb26
  have hb28 : Blk wc4 r28 _ _ := (hk r28 (by omega)).trans hb28
  refine refill (vs := sV (smallS 0 0) x23) hb28 rfl (sV_one _ _) rfl ?_
  intro wc5 hb28 hx hk hz
  have eA := hx wA eA (by omega)
  have hb24 : Blk wc5 r24 _ _ := (hk r24 (by omega)).trans hb24
  have hb25 : Blk wc5 r25 _ _ := (hk r25 (by omega)).trans hb25
  have hb26 : Blk wc5 r26 _ _ := (hk r26 (by omega)).trans hb26
  have hb27 : Blk wc5 r27 _ _ := (hk r27 (by omega)).trans hb27
  refine new_i fun r29 wd1 hb29 ed1 hr29 _ => ?_
  have hb29 : Blk wd1 r29 ((numE .u32).flat [2, 2]) 25 := hb29
  have hb24 := hb24.ext ed1
  have hb25 := hb25.ext ed1
  have hb26 := hb26.ext ed1
  have hb27 := hb27.ext ed1
  have hb28 := hb28.ext ed1
  have eA := eA.trans ed1
  have l28 := hb28.lt
  have l27 := hb27.lt
  have l24 := hb24.lt
  have l25 := hb25.lt
  rw [add_mk]
  refine stW_blk hb24 (by show 0 + 4 < 5; omega) ?_
  have hg := set_grown wd1 r24 (0 + 4) (.slice (some (⟨r29, 0, none⟩ : Addr)) 2 2)
  have hb24 : Blk _ r24 (sV twiceS (some ⟨r29, 0, none⟩, 2, 2)) _ := hb24.set (0 + 4) (.slice (some (⟨r29, 0, none⟩ : Addr)) 2 2)
  generalize wd1.setCell ⟨r24, 0 + 4, none⟩ (.slice (some (⟨r29, 0, none⟩ : Addr)) 2 2) = wd2 at hg hb24 ⊢
  have n29 : r29 ≠ r24 := by omega
  have hb29 := hb29.grown hg (by simp; omega)
  have hb25 := hb25.grown hg (by simp; omega)
  have hb26 := hb26.grown hg (by simp; omega)
  have hb27 := hb27.grown hg (by simp; omega)
  have hb28 := hb28.grown hg (by simp; omega)
  have eA : Ext wA wd2 := eA.grown hg (fun j hj => by injection hj with hj; omega)
  refine new_i fun r30 wd3 hb30 ed3 hr30 _ => ?_
  have hb30 : Blk wd3 r30 ((numE .u32).flat [8]) 25 := hb30
  have hb24 := hb24.ext ed3
  have hb25 := hb25.ext ed3
  have hb26 := hb26.ext ed3
  have hb27 := hb27.ext ed3
  have hb28 := hb28.ext ed3
  have hb29 := hb29.ext ed3
  have eA := eA.trans ed3
  have l29 := hb29.lt
  have l30 := hb29.lt
  have q25 := (show Blk wd2 r25 _ _ by assumption).lt
  rw [add_mk]
  refine stW_blk hb25 (by show 0 + 4 < 5; omega) ?_
  have hg := set_grown wd3 r25 (0 + 4) (.slice (some (⟨r30, 0, none⟩ : Addr)) 1 1)
  have hb25 : Blk _ r25 (sV outS (some ⟨r30, 0, none⟩, 1, 1)) _ := hb25.set (0 + 4) (.slice (some (⟨r30, 0, none⟩ : Addr)) 1 1)
  generalize wd3.setCell ⟨r25, 0 + 4, none⟩ (.slice (some (⟨r30, 0, none⟩ : Addr)) 1 1) = wD at hg hb25 ⊢
  have hb30 := hb30.grown hg (by simp; omega)
  have hb29 := hb29.grown hg (by simp; omega)
  have hb24 := hb24.grown hg (by simp; omega)
  have hb26 := hb26.grown hg (by simp; omega)
  have hb27 := hb27.grown hg (by simp; omega)
  have hb28 := hb28.grown hg (by simp; omega)
  have eA : Ext wA wD := eA.grown hg (fun j hj => by injection hj with hj; omega)
  refine new_i fun r31 wd5 hb31 ed5 hr31 hz31 => ?_
  refine refill (vs := sV (wideS 0) (none, 0, 0)) hb31 rfl (sV_one _ _) rfl ?_
  intro wd6 hb31 hx hk hz6
  have eD : Ext wD wd6 := hx wD ed5 (by omega)
  refine loopW_i (fun y w' => ∃ (i : Nat) (x : SLC), i ≤ 25 ∧ y = ((i : Int), ()) ∧ Ext wD w' ∧ wd6.heap.size ≤ w'.heap.size ∧ Blk w' r31 (sV (wideS i) x) 28 ∧ Owni (numE .u32) 25 w' wd6.heap.size x.1 x.2.1 x.2.2 (wideS i).pages) (fun y => (25 - y.1).toNat) ⟨0, (none, 0, 0), by omega, rfl, eD, Nat.le_refl _, hb31, Owni.nil _ _ _⟩ ?_
  rintro _ we ⟨i, x, hi, rfl, eD, hze, hb31, ho31⟩
  dsimp only
  have hl31 := ho31.len
  have lpg : (wideS i).pages.length = i := by simp [wideS]
  have lt31 := hb31.lt
  by_cases hlt : i < 25
  · refine splitW_t (decide_eq_true (by omega)) ?_
    refine boxF 4 x hb31 (by rfl) ?_
    have ev : IntKind.wrap .u32 (IntKind.wrap .i64 (2 + (i : Int))) = ((2 + i : Nat) : Int) := by
      rw [wrap_i64 (by omega) (by omega), show (2 : Int) + (i : Int) = ((2 + i : Nat) : Int) by omega, wrap_u32_nat (by omega)]
    rw [ev]
    refine append_newi (E := numE .u32) (ys := [2 + i]) (by rfl) rfl elem_u32 ho31 hze (by omega) (by omega) ?_
    intro A2 c2 wf ho2 hg2
    have h31ne : r31 < wd6.heap.size := by omega
    have hb31 := hb31.grown hg2.grown (fun e => by have := ho31.row r31 e.symm; omega)
    have eD : Ext wD wf := eD.grown hg2.grown (fun j hj => by have := ho31.row j hj; omega)
    rw [add_mk]
    refine stW_blk hb31 (by show 0 + 4 < 5; omega) ?_
    have hg3 := set_grown wf r31 (0 + 4) (.slice A2 (x.2.1 + 1) c2)
    have hb31 := hb31.set (0 + 4) (.slice A2 (x.2.1 + 1) c2)
    have ep : (wideS i).pages ++ [2 + i] = (wideS (i + 1)).pages := by simp [wideS, List.range_succ]
    rw [ep] at ho2
    refine ⟨⟨i + 1, (A2, x.2.1 + 1, c2), by omega, by rw [wrap_i64 (by omega) (by omega)]; rfl, eD.grown hg3 (fun j hj => by injection hj with hj; omega), ?_, hb31, ho2.grown hg3 (fun j hj e => by injection hj with hj; have := ho2.row j e; omega)⟩, by rw [wrap_i64 (by omega) (by omega)]; omega⟩
    exact Nat.le_trans (Nat.le_trans hze hg2.grown.size) hg3.size
  obtain rfl : i = 25 := by omega
  refine splitW_f (decide_eq_false (by omega)) ?_
  have hp31 : Pg we x (wideS 25).pages := ⟨ho31.sl, ho31.le.1⟩
  have hp24 : Pg wD (some ⟨r29, 0, none⟩, 2, 2) twiceS.pages := ⟨Sli.of_blk hb29 rfl (show 2 ≤ 9223372036854775807 by omega), Nat.le_refl _⟩
  have hp25 : Pg wD (some ⟨r30, 0, none⟩, 1, 1) outS.pages := ⟨Sli.of_blk hb30 rfl (show 1 ≤ 9223372036854775807 by omega), Nat.le_refl _⟩
  have eE : Ext wA we := eA.trans eD
  have hb5 := hb5.ext eE
  have hb15 := hb15.ext eE
  have hp4 := hp4.ext eE
  have hp21 := hp21.ext eE
  have hp22 := hp22.ext eE
  have hp23 := hp23.ext eE
  have hp24 := hp24.ext eD
  have hp25 := hp25.ext eD
  have hb24 := hb24.ext eD
  have hb25 := hb25.ext eD
  have hb26 := hb26.ext eD
  have hb27 := hb27.ext eD
  have hb28 := hb28.ext eD
  have he := he.trans eE
  refine callW_of (rfput_calls we 128 (f := f9) (by decide)) ?_
  rintro _ wg1 ⟨rfl, hg1⟩
  rw [put_9]
  refine ⟨(mk (putB 128 f9), 0, ()), rfl, ?_⟩
  refine callW_of (sget_calls wg1 _ (put_len (by decide))) ?_
  rintro _ wg2 ⟨x38, rfl, _, hg2, _⟩
  rw [B_mk', get_9]
  generalize (getS (putB 128 f9)).1 = g9
  refine ⟨(sT g9 x38, 11, ()), rfl, ?_⟩
  dsimp only
  refine boxedS (s := g9) (x := x38) rfl fun r39 wg3 _ hg3 _ => ?_
  refine callW_of (rfput_calls wg3 128 (f := fsh) (by decide)) ?_
  rintro _ wg4 ⟨rfl, hg4⟩
  rw [put_sh]
  refine ⟨(mk (putB 128 fsh), 0, ()), rfl, ?_⟩
  refine callW_of (sget_calls wg4 _ (put_len (by decide))) ?_
  rintro _ wg5 ⟨x41, rfl, _, hg5, _⟩
  rw [B_mk', get_sh]
  generalize (getS (putB 128 fsh)).1 = gs
  refine ⟨(sT gs x41, 4, ()), rfl, ?_⟩
  dsimp only
  refine boxedS (s := gs) (x := x41) rfl fun r42 wg6 _ hg6 _ => ?_
  have eg := ((((hg1.trans hg2).trans hg3).trans hg4).trans hg5).trans hg6
  refine joinW_s (fun (y : Bool × Unit) w' => y.1 = true ∧ Ext w w') ?_ (fun J hJ => ?_)
  · rintro ⟨y, _⟩ w' ⟨h, he⟩
    dsimp only at h
    subst h
    exact ⟨rfl, he⟩
  refine draw_i fun wh hh _ _ => ?_
  have eh := eg.trans hh
  refine joinW_s (fun (y : Bool × Unit) w' => y.1 = true ∧ Ext we w') ?_ (fun J45 hJ45 => ?_)
  rotate_left
  · refine splitW_t (by rfl) (boxA (ls := sLs) (sT (smallS 9 7) x4) (hb5.ext eh) rfl ?_)
    refine callW_of (small_calls (gen := 9) (root := 7)) ?_
    rintro _ wi ⟨x48, rfl, hp48, hi⟩
    refine ⟨sT (smallS 9 7) x48, rfl, ?_⟩
    have hbi := (hb5.ext eh).ext hi
    refine heldN (fun p hp => ?_) ?_
    · simp only [List.mem_cons, List.not_mem_nil, or_false] at hp
      rcases hp with rfl | rfl | rfl | rfl | rfl <;> (rw [add_mk, hbi.cell]; rfl)
    refine callW_of (ssame_calls (s := smallS 9 7) (q := smallS 9 7) ((hp4.ext eh).ext hi) hp48) ?_
    rintro _ wj ⟨rfl, hj⟩
    exact ⟨_, rfl, splitW_t (by simp) (splitW_t (by rfl) (hJ45 _ _ ⟨rfl, (eh.trans hi).trans hj⟩))⟩
  rintro ⟨y, _⟩ wk ⟨hy, ek⟩
  dsimp only at hy ⊢
  subst hy
  refine joinW_s (fun (y : Bool × Unit) w' => y.1 = true ∧ Ext we w') ?_ (fun J50 hJ50 => splitW_t rfl (splitW_t (by rfl) (splitW_t (by rfl) (splitW_t (by rfl) (hJ50 _ _ ⟨rfl, ek⟩)))))
  rintro ⟨y, _⟩ wk ⟨hy, ek⟩
  dsimp only at hy ⊢
  subst hy
  refine joinW_s (fun (y : Bool × Unit) w' => y.1 = true ∧ Ext we w') ?_ (fun J52 hJ52 => ?_)
  rotate_left
  · refine splitW_t rfl (boxF 3 ((3 : Nat) : Int) (hb15.ext ek) (by rfl) (splitW_t (by rfl) (splitW_t (by rfl) ?_)))
    refine boxA (ls := sLs) (sT twiceS (some ⟨r29, 0, none⟩, 2, 2)) (hb24.ext ek) rfl ?_
    refine callW_of (check_calls (s := twiceS) ⟨by decide, by dsimp only [twiceS]; omega, by dsimp only [twiceS]; omega, by decide, by intro p hp; simp [twiceS] at hp; omega⟩ (hp24.ext ek)) ?_
    rintro _ wj ⟨rfl, hj⟩
    rw [chk_twice]
    exact ⟨_, rfl, splitW_t (by rfl) (hJ52 _ _ ⟨rfl, ek.trans hj⟩)⟩
  rintro ⟨y, _⟩ wk ⟨hy, ek⟩
  dsimp only at hy ⊢
  subst hy
  refine joinW_s (fun (y : Bool × Unit) w' => y.1 = true ∧ Ext we w') ?_ (fun J57 hJ57 => ?_)
  rotate_left
  · refine splitW_t rfl ?_
    refine boxA (ls := sLs) (sT outS (some ⟨r30, 0, none⟩, 1, 1)) (hb25.ext ek) rfl ?_
    refine callW_of (check_calls (s := outS) ⟨by decide, by dsimp only [outS]; omega, by dsimp only [outS]; omega, by decide, by intro p hp; simp [outS] at hp; omega⟩ (hp25.ext ek)) ?_
    rintro _ wj ⟨rfl, hj⟩
    rw [chk_out]
    refine ⟨_, rfl, splitW_t (by rfl) ?_⟩
    have ek := ek.trans hj
    refine boxA (ls := sLs) (sT (smallS 1 8) x21) (hb26.ext ek) rfl ?_
    refine callW_of (check_calls (s := smallS 1 8) (small_fits (by omega) (by omega)) (hp21.ext ek)) ?_
    rintro _ wj ⟨rfl, hj⟩
    rw [chk_far]
    refine ⟨_, rfl, splitW_t (by rfl) ?_⟩
    have ek := ek.trans hj
    refine boxA (ls := sLs) (sT (smallS 1 2) x22) (hb27.ext ek) rfl ?_
    refine callW_of (check_calls (s := smallS 1 2) (small_fits (by omega) (by omega)) (hp22.ext ek)) ?_
    rintro _ wj ⟨rfl, hj⟩
    rw [chk_root]
    exact ⟨_, rfl, splitW_t (by rfl) (hJ57 _ _ ⟨rfl, ek.trans hj⟩)⟩
  rintro ⟨y, _⟩ wk ⟨hy, ek⟩
  dsimp only at hy ⊢
  subst hy
  refine joinW_s (fun (y : Bool × Unit) w' => y.1 = true ∧ Ext we w') ?_ (fun J65 hJ65 => ?_)
  rotate_left
  · refine splitW_t rfl ?_
    refine boxA (ls := sLs) (sT (smallS 0 0) x23) (hb28.ext ek) rfl ?_
    refine callW_of (check_calls (s := smallS 0 0) (small_fits (by omega) (by omega)) (hp23.ext ek)) ?_
    rintro _ wj ⟨rfl, hj⟩
    rw [chk_none]
    refine ⟨_, rfl, splitW_t (by rfl) ?_⟩
    have ek := ek.trans hj
    refine boxA (ls := sLs) (sT (wideS 25) x) (hb31.ext ek) rfl ?_
    refine callW_of (check_calls (s := wideS 25) wide_fits (hp31.ext ek)) ?_
    rintro _ wj ⟨rfl, hj⟩
    rw [chk_wide]
    exact ⟨_, rfl, splitW_t (by rfl) (splitW_t (by rfl) (hJ65 _ _ ⟨rfl, ek.trans hj⟩))⟩
  rintro ⟨y, _⟩ wk ⟨hy, ek⟩
  dsimp only at hy ⊢
  subst hy
  refine joinW_s (fun (y : Bool × Unit) w' => y.1 = true ∧ Ext we w') ?_ (fun J71 hJ71 => ?_)
  rotate_left
  · refine splitW_t rfl (splitW_t (by rfl) ?_)
    refine callW_of (other_calls wk 0) ?_
    rintro _ wk ⟨rfl, hw⟩
    subst hw
    refine ⟨_, rfl, splitW_t (by rfl) ?_⟩
    refine callW_of (other_calls wk 1) ?_
    rintro _ wk ⟨rfl, hw⟩
    subst hw
    exact ⟨_, rfl, splitW_t (by rfl) (hJ71 _ _ ⟨rfl, ek⟩)⟩
  rintro ⟨y, _⟩ wk ⟨hy, ek⟩
  dsimp only at hy ⊢
  subst hy
  refine joinW_s (fun (y : Bool × Unit) w' => y.1 = true ∧ Ext we w') ?_ (fun J75 hJ75 => ?_)
  rotate_left
  · refine splitW_t rfl ?_
    refine callW_of (other_calls wk 7) ?_
    rintro _ wk ⟨rfl, hw⟩
    subst hw
    refine ⟨_, rfl, splitW_t (by rfl) ?_⟩
    refine callW_of (pages_calls wk 128 8) ?_
    rintro _ wl ⟨rfl, hl⟩
    refine ⟨_, rfl, splitW_t (by kernel_rfl) ?_⟩
    refine callW_of (pages_calls wl 128 57) ?_
    rintro _ wm ⟨rfl, hm⟩
    exact ⟨_, rfl, splitW_t (by kernel_rfl) (hJ75 _ _ ⟨rfl, (ek.trans hl).trans hm⟩)⟩
  rintro ⟨y, _⟩ wk ⟨hy, ek⟩
  dsimp only at hy ⊢
  subst hy
  refine splitW_t rfl ?_
  refine callW_of (pages_calls wk 0 0) ?_
  rintro _ wl ⟨rfl, hl⟩
  exact ⟨_, rfl, hJ _ _ ⟨by kernel_rfl, he.trans (ek.trans hl)⟩⟩
end Go.Proofs.Ytiiemgndnpflbaa.V
