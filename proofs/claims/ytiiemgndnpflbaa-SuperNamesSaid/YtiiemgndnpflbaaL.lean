/- Laws of chapter 11. -/
import Derived.Test.YtiiemgndnpflbaaKSuper4
set_option linter.unusedVariables false
set_option linter.unusedSimpArgs false
namespace Go.Proofs.Ytiiemgndnpflbaa.V
open Go Go.Proofs Go.RowKit Crc

def mk (bs : List UInt8) : ByteArray := ⟨bs.toArray⟩
theorem B_mk' (bs : List UInt8) : B (mk bs) = bs := B_mk bs
theorem mk_size' (bs : List UInt8) : (mk bs).size = bs.length := by rw [B_size, B_mk']
theorem putS_size {s : Sup} : (putS s).1.length ≤ 4096 := by
  by_cases h : chk s = 0
  · have := putS_length h; omega
  · rw [putS_bad h]; exact Nat.zero_le _
theorem putS_mk {s : Sup} : (mk (putS s).1).size ≤ 9223372036854775807 := by
  have := putS_size (s := s)
  rw [mk_size']; omega
def smallS (gen root : Nat) : Sup := ⟨gen, 128, 8, root, [2]⟩
theorem small_calls {w : World} {gen root : Nat} :
    Calls Try.prog 16 #[.int .u64 (gen : Int), .int .u32 (root : Int)] w (Ret fun v w' => ∃ x : SLC, v = .agg (sV (smallS gen root) x).toArray ∧ Pg w' x [2] ∧ Ext w w') := by
  apply calls16
  unfold S16
  refine new_i fun r1 w1 hb1 he1 hr1 _ => ?_
  have hb1 : Blk w1 r1 (sV sup0 (none, 0, 0)) 28 := hb1
  refine new_i fun r2 w2 hb2 he2 hr2 hz2 => ?_
  have hb2 : Blk w2 r2 ((numE .u32).flat [2]) 25 := hb2
  have h1lt := hb1.lt
  refine setS (s := smallS gen root) (x := (some ⟨r2, 0, none⟩, 1, 1)) (hb1.ext he2) rfl rfl ?_
  intro w3 hb3 hx3 hk3 hz3
  have he3 := hx3 w (he1.trans he2) (by omega)
  have hp : Pg w2 (some ⟨r2, 0, none⟩, 1, 1) [2] := ⟨Sli.of_blk hb2 rfl (show 1 ≤ 9223372036854775807 by omega), Nat.le_refl _⟩
  exact ⟨_, rfl, hp.grown (grown_of_set (he1.trans he2) he3 hk3 hz3) (fun c hc e => by injection hc with hc; subst hc; injection e with e; dsimp only at e; omega), he3⟩
theorem putk_calls {w : World} {s : Sup} {x : SLC} (hf : s.Fits) (hp : Pg w x s.pages) :
    Calls Try.prog 15 #[.agg (sV s x).toArray] w (Ret fun v w' => v = .string (mk (putS s).1) ∧ Ext w w') := by
  apply calls15
  unfold S15
  refine new_i fun r1 w1 hb1 he1 _ _ => ?_
  have hb1 : Blk w1 r1 (sV s x) 28 := hb1
  refine boxA (ls := sLs) (sT s x) hb1 rfl ?_
  refine callW_of (sput_calls hf (hp.ext he1)) ?_
  rintro _ w2 ⟨rfl, he2⟩
  exact ⟨(⟨(putS s).1.toArray⟩, (putS s).2, ()), rfl, rfl, he1.trans he2⟩
def zeros : List UInt8 := timesL [0] 128
theorem nought_calls (w : World) : Calls Try.prog 17 #[] w (Ret fun v w' => v = .string (mk zeros) ∧ w' = w) := by
  apply calls17
  unfold S17
  refine callW_of (times_calls w ⟨#[0]⟩ (n := 128) (by omega) (by decide) (by decide)) ?_
  rintro _ w1 ⟨rfl, hw⟩
  subst hw
  exact ⟨_, rfl, rfl, rfl⟩
theorem small_fits {g r : Nat} (hg : g < 18446744073709551616) (hr : r < 4294967296) : (smallS g r).Fits := ⟨hg, by dsimp only [smallS]; omega, by dsimp only [smallS]; omega, hr, by intro p hp; simp [smallS] at hp; omega⟩
theorem small_ok (g r : Nat) (hg : g ≠ 0) (hr : r = 0 ∨ (3 ≤ r ∧ r < 8)) : chk (smallS g r) = 0 := by
  have hh : (smallS g r).head := by
    refine ⟨by kernel_rfl, hg, ?_, by kernel_rfl⟩
    rcases hr with h | h
    · exact .inl h
    · exact .inr (decide_eq_true (by dsimp only [smallS]; omega))
  rw [chk_long hh ?_]
  · rw [if_neg]
    have e : roomOf (smallS g r).size = 112 := by kernel_rfl
    rw [e]
    show ¬ (14 + 4 * ((1 : Nat) : Int) > 112)
    omega
  · intro j hj
    have hj0 : j = 0 := by have : (smallS g r).pages.length = 1 := rfl; omega
    subst hj0
    refine ⟨by kernel_rfl, ?_, by simp⟩
    show (2 : Nat) ≠ r
    omega
theorem getS_putS {s : Sup} (hf : s.Fits) (h : chk s = 0) : getS (putS s).1 = (s, 0) := getS_put hf (Prod.ext rfl (by rw [putS_good h]))
theorem small_get (g r : Nat) (hg : g ≠ 0) (hg2 : g < 18446744073709551616) (hr : r = 0 ∨ (3 ≤ r ∧ r < 8)) : getS (putS (smallS g r)).1 = (smallS g r, 0) :=
  getS_putS (small_fits hg2 (by omega)) (small_ok g r hg hr)
theorem zeros_get : (getS zeros).2 = 10 := by
  have e : getR zeros = (fra0, 10) := getR_10 (by rw [beq_eq_false_iff_ne.symm]; kernel_rfl) (by rw [beq_eq_false_iff_ne.symm]; kernel_rfl)
  have k : (kindR zeros 1).2 = 10 := by unfold kindR; rw [e]; rfl
  rw [getS_e (by rw [k]; omega)]
  dsimp only
  exact k
theorem zeros_len : zeros.length = 128 := by rw [zeros, timesL_length]; rfl
theorem cho_1 : chooseS (putS (smallS 4 0)).1 (putS (smallS 5 3)).1 = (1, smallS 5 3, 0) := by
  unfold chooseS
  rw [small_get 4 0 (by omega) (by omega) (.inl rfl), small_get 5 3 (by omega) (by omega) (.inr (by omega)), if_neg (by simp), if_pos (.inr ⟨rfl, by decide⟩)]
theorem cho_2 : chooseS (putS (smallS 4 0)).1 zeros = (0, smallS 4 0, 0) := by
  unfold chooseS
  rw [small_get 4 0 (by omega) (by omega) (.inl rfl), zeros_get, if_neg (by simp), if_neg (by simp [zeros_get])]
theorem lives_calls (w : World) : Calls Try.prog 8 #[] w (Ret fun v w' => v = .bool true ∧ Ext w w') := by
  apply calls8
  unfold S8
  refine callW_of (small_calls (gen := 4) (root := 0)) ?_
  rintro _ w1 ⟨x1, rfl, hp1, he1⟩
  refine ⟨sT (smallS 4 0) x1, rfl, ?_⟩
  refine callW_of (putk_calls (small_fits (by omega) (by omega)) hp1) ?_
  rintro _ w2 ⟨rfl, he2⟩
  refine ⟨_, rfl, ?_⟩
  refine callW_of (small_calls (gen := 5) (root := 3)) ?_
  rintro _ w3 ⟨x3, rfl, hp3, he3⟩
  refine ⟨sT (smallS 5 3) x3, rfl, ?_⟩
  refine callW_of (putk_calls (small_fits (by omega) (by omega)) hp3) ?_
  rintro _ w4 ⟨rfl, he4⟩
  refine ⟨_, rfl, ?_⟩
  refine callW_of (choose_calls w4 _ _ putS_mk putS_mk) ?_
  rintro _ w5 ⟨x5, rfl, hp5, he5, _⟩
  rw [B_mk', B_mk', cho_1]
  refine ⟨(1, sT (smallS 5 3) x5, 0, ()), rfl, ?_⟩
  dsimp only
  refine boxedS (s := smallS 5 3) (x := x5) rfl fun r6 w6 _ he6 _ => ?_
  refine callW_of (small_calls (gen := 4) (root := 0)) ?_
  rintro _ w7 ⟨x7, rfl, hp7, he7⟩
  refine ⟨sT (smallS 4 0) x7, rfl, ?_⟩
  refine callW_of (putk_calls (small_fits (by omega) (by omega)) hp7) ?_
  rintro _ w8 ⟨rfl, he8⟩
  refine ⟨_, rfl, ?_⟩
  refine callW_of (nought_calls w8) ?_
  rintro _ w8 ⟨rfl, hw⟩
  subst hw
  refine ⟨_, rfl, ?_⟩
  refine callW_of (choose_calls w8 _ _ putS_mk (by rw [mk_size', zeros_len]; omega)) ?_
  rintro _ w9 ⟨x9, rfl, hp9, he9, _⟩
  rw [B_mk', B_mk', cho_2]
  refine ⟨(0, sT (smallS 4 0) x9, 0, ()), rfl, ?_⟩
  dsimp only
  refine boxedS (s := smallS 4 0) (x := x9) rfl fun r10 w10 _ he10 _ => ?_
  refine splitW_t (by rfl) (splitW_t (by rfl) (splitW_t (by rfl) ⟨by rfl, ?_⟩))
  exact (((((((((he1.trans he2).trans he3).trans he4).trans he5).trans he6).trans he7).trans he8).trans he9).trans he10)
end Go.Proofs.Ytiiemgndnpflbaa.V
