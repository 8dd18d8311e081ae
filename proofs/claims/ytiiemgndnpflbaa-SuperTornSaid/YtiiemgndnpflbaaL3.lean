/- Laws of chapter 11: SuperTorn. -/
import Derived.Test.YtiiemgndnpflbaaL
import Derived.Test.YtiiemgndnpflbaaHB
set_option linter.unusedVariables false
set_option linter.unusedSimpArgs false
namespace Go.Proofs.Ytiiemgndnpflbaa.V
open Go Go.Proofs Go.RowKit Crc

theorem cho_torn {s t : Sup} (hf : s.Fits) (hs : chk s = 0) (hft : t.Fits) (ht : chk t = 0) (hg : s.gen < t.gen) (z : List UInt8) :
    ∃ (k : Int) (q : Sup), chooseS (putS s).1 z = (k, q, 0) ∧ (z = (putS t).1 → k = 1 ∧ q = t) ∧ ((getS z).2 ≠ 0 → k = 0 ∧ q = s) := by
  have ha := getS_putS hf hs
  unfold chooseS
  rw [ha]
  by_cases h : (getS z).2 = 0 ∧ (getS z).1.gen > s.gen
  · refine ⟨1, (getS z).1, by rw [if_neg (by simp), if_pos (.inr h)], fun e => ⟨rfl, ?_⟩, fun e => absurd h.1 e⟩
    rw [e, getS_putS hft ht]
  · refine ⟨0, s, by rw [if_neg (by simp), if_neg (by rintro (x | x); exact x rfl; exact h x)], fun e => ?_, fun e => ⟨rfl, rfl⟩⟩
    exfalso
    apply h
    rw [e, getS_putS hft ht]
    exact ⟨rfl, hg⟩
theorem storn_calls {w : World} {s t : Sup} {x y : SLC} (hf : s.Fits) (hp : Pg w x s.pages) (hft : t.Fits) (hpt : Pg w y t.pages) {old : ByteArray} (ho : old.size ≤ 9223372036854775807) {sec : Nat} (hsec : sec < 18446744073709551616) :
    Calls Try.prog 3 #[.agg (sV s x).toArray, .agg (sV t y).toArray, .string old, .int .u64 (sec : Int)] w (Ret fun v w' => v = .bool true ∧ Ext w w') := by
  apply calls3
  unfold S3
  refine new_i fun r1 w1 hb1 he1 _ _ => ?_
  have hb1 : Blk w1 r1 (sV s x) 28 := hb1
  refine new_i fun r2 w2 hb2 he2 _ _ => ?_
  have hb2 : Blk w2 r2 (sV t y) 28 := hb2
  have hb1 := hb1.ext he2
  have he := he1.trans he2
  refine callW_of (lives_calls w2) ?_
  rintro _ w3 ⟨rfl, he3⟩
  refine ⟨_, rfl, splitW_f (by rfl) ?_⟩
  have hb1 := hb1.ext he3
  have hb2 := hb2.ext he3
  have he := he.trans he3
  have hp := hp.ext he
  have hpt := hpt.ext he
  refine boxF 4 x hb1 (by rfl) (splitW_i (fun _ => ⟨rfl, he⟩) (fun _ => ?_))
  refine boxF 4 y hb2 (by rfl) (splitW_i (fun _ => ⟨rfl, he⟩) (fun _ => ?_))
  refine boxA (ls := sLs) (sT s x) hb1 rfl ?_
  refine callW_of (sput_calls hf hp) ?_
  rintro _ w4 ⟨rfl, he4⟩
  refine ⟨(mk (putS s).1, (putS s).2, ()), rfl, ?_⟩
  have hb1 := hb1.ext he4
  have hb2 := hb2.ext he4
  have hp := hp.ext he4
  have hpt := hpt.ext he4
  have he := he.trans he4
  refine boxA (ls := sLs) (sT t y) hb2 rfl ?_
  refine callW_of (sput_calls hft hpt) ?_
  rintro _ w5 ⟨rfl, he5⟩
  refine ⟨(mk (putS t).1, (putS t).2, ()), rfl, ?_⟩
  have hb1 := hb1.ext he5
  have hb2 := hb2.ext he5
  have hp := hp.ext he5
  have hpt := hpt.ext he5
  have he := he.trans he5
  dsimp only
  refine splitW_i (fun _ => ⟨rfl, he⟩) (fun hz => ?_)
  have hs0 := putS_ok (bne_eq_false_iff_eq.1 hz)
  refine splitW_i (fun _ => ⟨rfl, he⟩) (fun hz => ?_)
  have ht0 := putS_ok (bne_eq_false_iff_eq.1 hz)
  refine splitW_i (fun _ => ⟨rfl, he⟩) (fun hz => splitW_i (fun _ => ⟨rfl, he⟩) (fun hz2 => ?_))
  have hz2 := bne_eq_false_iff_eq.1 hz2
  rw [mk_size'] at hz2
  refine box0 (t.gen : Int) hb2 (by rfl) (box0 (s.gen : Int) hb1 (by rfl) (splitW_i (fun _ => ⟨rfl, he⟩) (fun hg => ?_)))
  have hg := of_decide_eq_false hg
  have hg : s.gen < t.gen := by omega
  refine callW_of (choose_calls w5 _ old putS_mk ho) ?_
  rintro _ w6 ⟨x12, rfl, hp12, he6, _⟩
  rw [B_mk']
  obtain ⟨k12, q12, e12, _, _⟩ := cho_torn hf hs0 hft ht0 hg (B old)
  rw [e12]
  refine ⟨(k12, sT q12 x12, 0, ()), rfl, ?_⟩
  dsimp only
  refine boxedS (s := q12) (x := x12) rfl fun r13 w7 _ he7 _ => ?_
  have he67 := he6.trans he7
  have hb1 := hb1.ext he67
  have hb2 := hb2.ext he67
  have hp := hp.ext he67
  have hpt := hpt.ext he67
  have he := he.trans he67
  refine splitW_f (by rfl) (splitW_i (fun _ => ⟨by rfl, he⟩) (fun _ => ?_))
  refine conv_bytesB (u := .string) (e := 5) (by kernel_rfl) (by kernel_rfl) (by kernel_rfl) ?_
  intro c w8 rest hbk he8 hz8 hc
  have hL := putS_length ht0
  have hLs := putS_size (s := t)
  rw [mk_size']
  generalize hLL : (putS t).1.length = L at *
  have hold := B_size old
  have hdiv : IntKind.wrap .i64 (Int.tdiv (L : Int) 64) = ((L / 64 : Nat) : Int) := by
    rw [Int.tdiv_eq_ediv_of_nonneg (by omega), wrap_i64 (by omega) (by omega)]; omega
  rw [hdiv]
  generalize hbb : w7.heap.size = bk at *
  refine loopW_i (fun z w' => ∃ (i : Nat) (tb : List UInt8), i ≤ L / 64 ∧ z = ((i : Int), ()) ∧ Ext w7 w' ∧ BlkB w' bk (bV tb ++ rest) 5 ∧ tb.length = L) (fun z => (L / 64 - z.1).toNat) ⟨0, B old, by omega, rfl, he8, hbk, by omega⟩ ?_
  rintro _ w9 ⟨i, tb, hi, rfl, he9, hb9, hl9⟩
  dsimp only
  by_cases hlt : i < L / 64
  · refine splitW_t (decide_eq_true (by omega)) ?_
    have hi1 : IntKind.wrap .i64 ((i : Int) + 1) = ((i + 1 : Nat) : Int) := by rw [wrap_i64 (by omega) (by omega)]; omega
    have hi64 : IntKind.wrap .i64 ((i : Int) * 64) = ((64 * i : Nat) : Int) := by rw [wrap_i64 (by omega) (by omega)]; omega
    have hi65 : IntKind.wrap .i64 (((i + 1 : Nat) : Int) * 64) = ((64 * i + 64 : Nat) : Int) := by rw [wrap_i64 (by omega) (by omega)]; omega
    rw [hi1, hi64, hi65, wrap_u64_nat (a := i) (by omega), Int.toNat_natCast, Int.toNat_natCast]
    refine guard_i (by omega) ?_
    refine splitW_i (fun _ => ?_) (fun _ => ⟨⟨i + 1, tb, by omega, rfl, he9, hb9, hl9⟩, by omega⟩)
    refine draw_i fun w10 he10 _ _ => ?_
    have hb10 := hb9.ext he10
    have he10 := he9.trans he10
    refine guard_i ⟨by omega, by omega, by omega⟩ (guard_i ⟨by omega, by omega⟩ ?_)
    have hcut : cutAddr (some (⟨bk, 0, none⟩ : Addr)) (64 * i) c 1 = some ⟨bk, 64 * i, none⟩ := by
      unfold cutAddr
      rw [if_neg (by omega)]
      show some ((⟨bk, 0, none⟩ : Addr).add (64 * i * 1)) = _
      rw [add_mk, Nat.zero_add, Nat.mul_one]
    rw [hcut, show 64 * i + 64 - 64 * i = 64 by omega]
    refine copy_strB elem_u8 hb10 (by rw [List.length_append, length_bV]; omega) ?_
    intro w11 hb11 hg11
    generalize ((mk (putS t).1).extract (64 * i) L) = ex at hb11 ⊢
    generalize hm : min (B ex).length 64 = m at hb11 ⊢
    refine ⟨⟨i + 1, tb.take (64 * i) ++ (B ex).take 64 ++ tb.drop (64 * i + m), by omega, rfl, he10.grown hg11 (fun j hj => by injection hj with hj; omega), ?_, ?_⟩, by omega⟩
    · rw [List.take_append_of_le_length (by rw [length_bV]; omega), List.drop_append_of_le_length (by rw [length_bV]; omega), bV_take, bV_drop] at hb11
      rw [bV_append, bV_append, List.append_assoc, List.append_assoc]
      rw [List.append_assoc] at hb11
      exact hb11
    · simp only [List.length_append, List.length_take, List.length_drop]
      omega
  refine splitW_f (decide_eq_false (by omega)) ?_
  have hb1 := hb1.ext he9
  have hb2 := hb2.ext he9
  have hp := hp.ext he9
  have hpt := hpt.ext he9
  have he := he.trans he9
  refine conv_str (e := 5) (by kernel_rfl) (by kernel_rfl) (by kernel_rfl) (hb9.sl (n := old.size) (by rw [length_bV]; omega) ho) ?_
  obtain ⟨k, q, e19, hk1, hk2⟩ := cho_torn hf hs0 hft ht0 hg tb
  refine callW_of (choose_calls w9 _ (mk tb) putS_mk (by rw [mk_size']; omega)) ?_
  rintro _ w10 ⟨x19, rfl, hp19, he10, _⟩
  rw [B_mk', B_mk', e19]
  rw [B_mk', B_mk', e19] at hp19
  refine ⟨(k, sT q x19, 0, ()), rfl, ?_⟩
  dsimp only at hp19 ⊢
  refine boxedS (s := q) (x := x19) rfl fun r20 w11 hb20 he11 _ => ?_
  have hp19 := hp19.ext he11
  have he1011 := he10.trans he11
  have hb9' := hb9.ext he1011
  refine conv_str (e := 5) (by kernel_rfl) (by kernel_rfl) (by kernel_rfl) (hb9'.sl (n := old.size) (by rw [length_bV]; omega) ho) ?_
  refine callW_of (sget_calls w11 (mk tb) (by rw [mk_size']; omega)) ?_
  rintro _ w12 ⟨x22, rfl, hp22, he12, _⟩
  rw [B_mk']
  refine ⟨(sT (getS tb).1 x22, (getS tb).2, ()), rfl, ?_⟩
  dsimp only
  refine boxedS (s := (getS tb).1) (x := x22) rfl fun r23 w13 _ he13 _ => ?_
  have he1213 := he12.trans he13
  have hb9' := hb9'.ext he1213
  have hb20 := hb20.ext he1213
  have hp19 := hp19.ext he1213
  have ha := he1011.trans he1213
  have hb1 := hb1.ext ha
  have hb2 := hb2.ext ha
  have hp := hp.ext ha
  have hpt := hpt.ext ha
  have he := he.trans ha
  refine conv_str (e := 5) (by kernel_rfl) (by kernel_rfl) (by kernel_rfl) (hb9'.sl (n := old.size) (by rw [length_bV]; omega) ho) ?_
  refine splitW_i (fun hz => ?_) (fun hz => ?_)
  · rw [str_beq, B_mk'] at hz
    have hz : tb = (putS t).1 := by
      have := of_decide_eq_true hz
      rw [← this]
      exact (B_mk tb).symm
    obtain ⟨rfl, rfl⟩ := hk1 hz
    refine splitW_t (by rfl) (splitW_t (by rfl) ?_)
    refine boxA (ls := sLs) (sT q x19) hb20 rfl (boxA (ls := sLs) (sT q y) hb2 rfl ?_)
    refine callW_of (ssame_calls hp19 hpt) ?_
    rintro _ w14 ⟨rfl, he14⟩
    exact ⟨_, rfl, by simp, he.trans he14⟩
  · refine splitW_i (fun hq => ?_) (fun hq => ⟨by rfl, he⟩)
    obtain ⟨rfl, rfl⟩ := hk2 (bne_iff_ne.1 hq)
    refine splitW_t (by rfl) (splitW_t (by rfl) ?_)
    refine boxA (ls := sLs) (sT q x19) hb20 rfl (boxA (ls := sLs) (sT q x) hb1 rfl ?_)
    refine callW_of (ssame_calls hp19 hp) ?_
    rintro _ w14 ⟨rfl, he14⟩
    exact ⟨_, rfl, by simp, he.trans he14⟩
end Go.Proofs.Ytiiemgndnpflbaa.V
