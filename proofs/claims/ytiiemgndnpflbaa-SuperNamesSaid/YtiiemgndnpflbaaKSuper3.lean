/- Contracts of the document's answer (11): Get. -/
import Derived.Test.YtiiemgndnpflbaaKSuper2
set_option linter.unusedVariables false
set_option linter.unusedSimpArgs false
namespace Go.Proofs.Ytiiemgndnpflbaa.V
open Go Go.Proofs Go.RowKit Crc

theorem getS_short {bs : List UInt8} (h : (kindR bs 1).2 = 0) (h1 : (B (kindR bs 1).1.2.2).length < 14) : getS bs = (sup0, 4) := by
  unfold getS
  rw [if_neg (by simpa using h), if_pos h1]
theorem getS_dec {bs : List UInt8} (h : (kindR bs 1).2 = 0) (h1 : ¬ (B (kindR bs 1).1.2.2).length < 14) : getS bs = if putS (decS (kindR bs 1).1) = (bs, 0) then (decS (kindR bs 1).1, 0) else (sup0, 4) := by
  unfold getS
  rw [if_neg (by simpa using h), if_neg h1]
theorem rsget_calls (w : World) (s : ByteArray) (hs : s.size ≤ 9223372036854775807) : Calls Try.prog 22 #[.string s] w (Ret (GetRet w (B s))) := by
  apply calls22
  unfold S22
  refine new_i fun r1 w1 hb1 he1 hr1 _ => ?_
  have hb1 : Blk w1 r1 (sV sup0 (none, 0, 0)) 28 := hb1
  refine callW_of (rfkind_calls w1 s hs 1) ?_
  rintro _ w2 ⟨rfl, he2⟩
  refine ⟨(fT (kindR (B s) 1).1, (kindR (B s) 1).2, ()), rfl, ?_⟩
  have hb1 := hb1.ext he2
  have he2 := he1.trans he2
  refine boxed (f := (kindR (B s) 1).1) fun r3 w3 hb3 he3 hr3 => ?_
  have hb1 := hb1.ext he3
  have he3 := he2.trans he3
  dsimp only
  refine splitW_i (fun hq => ?_) (fun hq => ?_)
  · have hq := bne_iff_ne.1 hq
    exact setS (s := sup0) (x := (none, 0, 0)) hb1 rfl rfl fun w' _ hx _ _ => getRet_0 (getS_e hq) (hx w he3 (by omega))
  have hk0 := bne_eq_false_iff_eq.1 hq
  have hgen : (kindR (B s) 1).1.2.1 < 18446744073709551616 := by
    unfold kindR
    split
    · decide
    · exact getR_gen (B s)
  have hdata : (B (kindR (B s) 1).1.2.2).length ≤ 4096 := by
    have hg0 : (getR (B s)).2 = 0 := by
      unfold kindR at hk0
      split at hk0
      · cases hk0
      · exact hk0
    obtain ⟨_, _, _, q4, _⟩ := putR_ok (by rw [(getR_ok hg0).2])
    unfold kindR
    split
    · decide
    · rw [(getR_ok hg0).1]; omega
  have hsh := getS_short hk0
  have hgd := getS_dec hk0
  generalize hfk : (kindR (B s) 1).1 = f at *
  have hds := B_size f.2.2
  refine boxF 2 f.2.2 hb3 (by rfl) ?_
  refine splitW_i (fun hq => ?_) (fun hq => ?_)
  · have hq := of_decide_eq_true hq
    exact setS (s := sup0) (x := (none, 0, 0)) hb1 rfl rfl fun w' _ hx _ _ => getRet_0 (hsh (by omega)) (hx w he3 (by omega))
  have hq := of_decide_eq_false hq
  have hgd := hgd (by omega)
  refine boxF 2 f.2.2 hb3 (by rfl) ?_
  refine conv_bytes (u := .string) (e := 5) (by kernel_rfl) (by kernel_rfl) (by kernel_rfl) (by omega) ?_
  intro c w4 hsl he4 hs4 hc4
  rw [hds] at hsl hc4
  have hb1 := hb1.ext he4
  have hb3 := hb3.ext he4
  have he4 := he3.trans he4
  refine draw_i fun w4 he4' hz4 _ => ?_
  have hsl := hsl.ext he4'
  have hb1 := hb1.ext he4'
  have hb3 := hb3.ext he4'
  have he4 := he4.trans he4'
  generalize hA : (some (⟨w3.heap.size, 0, none⟩ : Addr)) = A at hsl ⊢
  rw [hds]
  refine boxF 1 (f.2.1 : Int) hb3 (by rfl) (guard_i ⟨by omega, by dsimp only; omega⟩ (guard_i ⟨by omega, by omega, by dsimp only; omega⟩ (guard_i ⟨by omega, by omega, by dsimp only; omega⟩ ?_)))
  have hsl4 := hsl
  have hb14 := hb1
  have hr1lt := hb1.lt
  have q0 := hsl.cut0 (k := 4) (m := c) (by omega) (by omega)
  have q1 := hsl.cut (l := 4) (k := 4) (m := c) (by omega) (by omega)
  have q2 := hsl.cut (l := 8) (k := 4) (m := c) (by omega) (by omega)
  rw [bV_take] at q0
  rw [bV_drop, bV_take] at q1 q2
  have l0 : lev ((B f.2.2).take 4) < 4294967296 := lev_lt4 (by rw [List.length_take]; omega)
  have l1 : lev (((B f.2.2).drop 4).take 4) < 4294967296 := lev_lt4 (by rw [List.length_take]; omega)
  have l2 : lev (((B f.2.2).drop 8).take 4) < 4294967296 := lev_lt4 (by rw [List.length_take]; omega)
  dsimp only
  have of0 : ∀ {w' : World}, Ext w4 w' → Calls Try.prog 41 #[.slice (cutAddr A 0 c 1) 4 c] w' (Ret fun v w'' => v = .int .u64 (lev ((B f.2.2).take 4) : Int) ∧ w'' = w') := fun he => refof_calls (q0.ext he) (by omega)
  have of1 : ∀ {w' : World}, Ext w4 w' → Calls Try.prog 41 #[.slice (cutAddr A 4 c 1) 4 (c - 4)] w' (Ret fun v w'' => v = .int .u64 (lev (((B f.2.2).drop 4).take 4) : Int) ∧ w'' = w') := fun he => refof_calls (q1.ext he) (by omega)
  have of2 : ∀ {w' : World}, Ext w4 w' → Calls Try.prog 41 #[.slice (cutAddr A 8 c 1) 4 (c - 8)] w' (Ret fun v w'' => v = .int .u64 (lev (((B f.2.2).drop 8).take 4) : Int) ∧ w'' = w') := fun he => refof_calls (q2.ext he) (by omega)
  generalize ha0 : lev ((B f.2.2).take 4) = a0 at of0 l0
  generalize ha1 : lev (((B f.2.2).drop 4).take 4) = a1 at of1 l1
  generalize ha2 : lev (((B f.2.2).drop 8).take 4) = a2 at of2 l2
  refine ⟨?_, ?_⟩
  · refine callW_of (of0 (Ext.refl w4)) ?_
    rintro _ w4 ⟨rfl, hw⟩
    subst hw
    refine ⟨_, rfl, heldF hb3 (by rfl) ?_⟩
    refine ⟨?_, ?_⟩
    · refine callW_of (of1 (Ext.refl w4)) ?_
      rintro _ w4 ⟨rfl, hw⟩
      subst hw
      refine ⟨_, rfl, heldF hb3 (by rfl) ?_⟩
      refine ⟨?_, ?_⟩
      · refine callW_of (of2 (Ext.refl w4)) ?_
        rintro _ w4 ⟨rfl, hw⟩
        subst hw
        refine ⟨_, rfl, heldF hb3 (by rfl) ?_⟩
        refine new_i fun r wx hr hex hrr _ => ?_
        have hr : Blk wx r (sV sup0 (none, 0, 0)) 28 := hr
        have hrr : w4.heap.size ≤ r := by omega
        refine heldF (hb3.ext hex) (by rfl) ?_
        rw [wrap_i64 (x := (a0 : Int)) (by omega) (by omega), wrap_i64 (x := (a1 : Int)) (by omega) (by omega), wrap_u32_nat l2]
        refine refill (vs := sV ⟨f.2.1, a0, a1, a2, []⟩ (none, 0, 0)) hr rfl (sV_one _ _) rfl ?_
        intro w9 hb9 hx9 hk9 hz9
        have he9 : Ext w4 w9 := hx9 w4 hex hrr
        have hrlt := hb9.lt
        refine loopW_i (fun y w' => ∃ (i : Nat) (x : SLC), 14 + 4 * i ≤ (B f.2.2).length ∧ y = (((14 + 4 * i : Nat) : Int), ()) ∧ Ext w4 w' ∧ w9.heap.size ≤ w'.heap.size ∧ Blk w' r (sV ⟨f.2.1, a0, a1, a2, wordsOf i ((B f.2.2).drop 14)⟩ x) 28 ∧ Owni (numE .u32) 25 w' w9.heap.size x.1 x.2.1 x.2.2 (wordsOf i ((B f.2.2).drop 14))) (fun y => ((B f.2.2).length - y.1).toNat) ⟨0, (none, 0, 0), by omega, rfl, he9, Nat.le_refl _, hb9, Owni.nil _ _ _⟩ ?_
        rintro _ w10 ⟨i, x, hi, rfl, he10, hz10, hb10, ho10⟩
        dsimp only
        have hlx := ho10.len
        rw [wordsOf_length] at hlx
        have ew : IntKind.wrap .i64 (((14 + 4 * i : Nat) : Int) + 4) = ((14 + 4 * (i + 1) : Nat) : Int) := by rw [wrap_i64 (by omega) (by omega)]; omega
        rw [ew]
        by_cases hlt : 14 + 4 * (i + 1) ≤ (B f.2.2).length
        · refine splitW_t (decide_eq_true (by omega)) ?_
          refine draw_i fun w11 he11 _ _ => ?_
          have hb11 := hb10.ext he11
          have ho11 := ho10.ext he11
          have hz11 := he11.size
          have he11 := he10.trans he11
          refine boxF 4 x hb11 (by rfl) (guard_i ⟨by omega, by omega, by omega⟩ ?_)
          rw [Int.toNat_natCast, Int.toNat_natCast, show 14 + 4 * (i + 1) - (14 + 4 * i) = 4 by omega]
          have hcut := (hsl4.ext he11).cut (l := 14 + 4 * i) (k := 4) (m := c) (by omega) (by omega)
          rw [bV_drop, bV_take, ← List.drop_drop] at hcut
          refine callW_of (refof_calls (c := c - (14 + 4 * i)) hcut (by omega)) ?_
          rintro _ w11 ⟨rfl, hw⟩
          subst hw
          refine ⟨_, rfl, ?_⟩
          refine heldF hb11 (by rfl) ?_
          have hv := lev_lt4 (bs := (((B f.2.2).drop 14).drop (4 * i)).take 4) (by rw [List.length_take]; omega)
          rw [wrap_u32_nat hv]
          refine new_i fun r18 w12 hb18 he12 hr18 hz12 => ?_
          have hb18 : Blk w12 r18 ((numE .u32).flat [lev ((((B f.2.2).drop 14).drop (4 * i)).take 4)]) 25 := hb18
          have hs18 : Sli (numE .u32) w12 (some ⟨r18, 0, none⟩) 1 [lev ((((B f.2.2).drop 14).drop (4 * i)).take 4)] := Sli.of_blk hb18 rfl (by omega)
          have hb12 := hb11.ext he12
          have ho12 := ho11.ext he12
          refine heldF hb12 (by rfl) ?_
          refine append_sli elem_u32 ho12 (by omega) hs18 (by omega) (by omega) ?_
          intro A13 c13 w13 ho13 hg13 _
          have hb13 := hb12.grown hg13.grown (fun e => by have := ho12.row r e.symm; omega)
          have he13 : Ext w4 w13 := (he11.trans he12).grown hg13.grown (fun j hj => by have := ho12.row j hj; have := he9.size; omega)
          rw [add_mk]
          refine stW_blk hb13 (by show 0 + 4 < 5; omega) ?_
          have hg14 := set_grown w13 r (0 + 4) (.slice A13 (x.2.1 + 1) c13)
          have hb14 := hb13.set (0 + 4) (.slice A13 (x.2.1 + 1) c13)
          rw [← wordsOf_succ] at ho13
          refine ⟨⟨i + 1, (A13, x.2.1 + 1, c13), by omega, rfl, he13.grown hg14 (fun j hj => by injection hj with hj; omega), ?_, hb14, ho13.grown hg14 (fun j hj e => by injection hj with hj; have := ho13.row j e; omega)⟩, by omega⟩
          exact Nat.le_trans (Nat.le_trans (Nat.le_trans hz10 hz11) (by omega)) (Nat.le_trans hg13.grown.size hg14.size)
        refine splitW_f (decide_eq_false (by omega)) ?_
        have ei : i = ((B f.2.2).length - 14) / 4 := by omega
        have hs1 : (⟨f.2.1, a0, a1, a2, wordsOf i ((B f.2.2).drop 14)⟩ : Sup) = decS f := by rw [ei, ← ha0, ← ha1, ← ha2]; rfl
        have hfit : (decS f).Fits := decS_fits hgen
        have hpg : Pg w10 x (decS f).pages := ⟨by rw [← hs1]; exact ho10.sl, ho10.le.1⟩
        rw [hs1] at hb10
        refine boxA (ls := sLs) (sT (decS f) x) hb10 rfl ?_
        refine callW_of (rsput_calls hfit hpg) ?_
        rintro _ w11 ⟨rfl, he11⟩
        refine ⟨(⟨(putS (decS f)).1.toArray⟩, (putS (decS f)).2, ()), rfl, ?_⟩
        dsimp only
        have hb11 := hb10.ext he11
        have hpg11 := hpg.ext he11
        have ho11 := ho10.ext he11
        have he11' : Ext w4 w11 := he10.trans he11
        have hb1' := hb14.ext he11'
        have hew : Ext w w11 := he4.trans he11'
        have no : putS (decS f) ≠ (B s, 0) → getS (B s) = (sup0, 4) := fun h => by rw [hgd, if_neg h]
        refine splitW_i (fun hz => ?_) (fun hz => ?_)
        · exact setS (s := sup0) (x := (none, 0, 0)) hb1' rfl rfl fun w'' _ hx _ _ => getRet_0 (no (fun e => bne_iff_ne.1 hz (by rw [e]))) (hx w hew (by omega))
        have hz := bne_eq_false_iff_eq.1 hz
        rw [str_beq, B_mk]
        refine splitW_i (fun hz2 => ?_) (fun hz2 => ?_)
        · exact setS (s := sup0) (x := (none, 0, 0)) hb1' rfl rfl fun w'' _ hx _ _ => getRet_0 (no (fun e => by rw [e] at hz2; simp at hz2)) (hx w hew (by omega))
        have hz2 : (putS (decS f)).1 = B s := by simpa using hz2
        have hgs : getS (B s) = (decS f, 0) := by rw [hgd, if_pos (Prod.ext hz2 hz)]
        refine boxA (ls := sLs) (sT (decS f) x) hb11 rfl (setS (s := decS f) (x := x) hb1' rfl rfl fun w' _ hx hk hz => ⟨x, by rw [hgs]; rfl, ?_, hx w hew (by omega), fun a ha => by have := ho10.row a.block (by rw [ha]; rfl); have := he9.size; have := he4.size; omega⟩)
        rw [hgs]
        have ho' := ho11.grown (grown_of_set hew (hx w hew (by omega)) hk hz) (fun j hj e => by injection hj with hj; have := ho11.row j e; omega)
        exact ⟨by rw [← hs1]; exact ho'.sl, hpg11.nc⟩
      · refine new_i fun r wx hr hex hrr _ => ?_
        have hr : Blk wx r (sV sup0 (none, 0, 0)) 28 := hr
        have hrr : w4.heap.size ≤ r := by omega
        refine heldF (hb3.ext hex) (by rfl) ?_
        refine callW_of (of2 (hex)) ?_
        rintro _ wx ⟨rfl, hw⟩
        subst hw
        refine ⟨_, rfl, heldF (hb3.ext hex) (by rfl) ?_⟩
        rw [wrap_i64 (x := (a0 : Int)) (by omega) (by omega), wrap_i64 (x := (a1 : Int)) (by omega) (by omega), wrap_u32_nat l2]
        refine refill (vs := sV ⟨f.2.1, a0, a1, a2, []⟩ (none, 0, 0)) hr rfl (sV_one _ _) rfl ?_
        intro w9 hb9 hx9 hk9 hz9
        have he9 : Ext w4 w9 := hx9 w4 hex hrr
        have hrlt := hb9.lt
        refine loopW_i (fun y w' => ∃ (i : Nat) (x : SLC), 14 + 4 * i ≤ (B f.2.2).length ∧ y = (((14 + 4 * i : Nat) : Int), ()) ∧ Ext w4 w' ∧ w9.heap.size ≤ w'.heap.size ∧ Blk w' r (sV ⟨f.2.1, a0, a1, a2, wordsOf i ((B f.2.2).drop 14)⟩ x) 28 ∧ Owni (numE .u32) 25 w' w9.heap.size x.1 x.2.1 x.2.2 (wordsOf i ((B f.2.2).drop 14))) (fun y => ((B f.2.2).length - y.1).toNat) ⟨0, (none, 0, 0), by omega, rfl, he9, Nat.le_refl _, hb9, Owni.nil _ _ _⟩ ?_
        rintro _ w10 ⟨i, x, hi, rfl, he10, hz10, hb10, ho10⟩
        dsimp only
        have hlx := ho10.len
        rw [wordsOf_length] at hlx
        have ew : IntKind.wrap .i64 (((14 + 4 * i : Nat) : Int) + 4) = ((14 + 4 * (i + 1) : Nat) : Int) := by rw [wrap_i64 (by omega) (by omega)]; omega
        rw [ew]
        by_cases hlt : 14 + 4 * (i + 1) ≤ (B f.2.2).length
        · refine splitW_t (decide_eq_true (by omega)) ?_
          refine draw_i fun w11 he11 _ _ => ?_
          have hb11 := hb10.ext he11
          have ho11 := ho10.ext he11
          have hz11 := he11.size
          have he11 := he10.trans he11
          refine boxF 4 x hb11 (by rfl) (guard_i ⟨by omega, by omega, by omega⟩ ?_)
          rw [Int.toNat_natCast, Int.toNat_natCast, show 14 + 4 * (i + 1) - (14 + 4 * i) = 4 by omega]
          have hcut := (hsl4.ext he11).cut (l := 14 + 4 * i) (k := 4) (m := c) (by omega) (by omega)
          rw [bV_drop, bV_take, ← List.drop_drop] at hcut
          refine callW_of (refof_calls (c := c - (14 + 4 * i)) hcut (by omega)) ?_
          rintro _ w11 ⟨rfl, hw⟩
          subst hw
          refine ⟨_, rfl, ?_⟩
          refine heldF hb11 (by rfl) ?_
          have hv := lev_lt4 (bs := (((B f.2.2).drop 14).drop (4 * i)).take 4) (by rw [List.length_take]; omega)
          rw [wrap_u32_nat hv]
          refine new_i fun r18 w12 hb18 he12 hr18 hz12 => ?_
          have hb18 : Blk w12 r18 ((numE .u32).flat [lev ((((B f.2.2).drop 14).drop (4 * i)).take 4)]) 25 := hb18
          have hs18 : Sli (numE .u32) w12 (some ⟨r18, 0, none⟩) 1 [lev ((((B f.2.2).drop 14).drop (4 * i)).take 4)] := Sli.of_blk hb18 rfl (by omega)
          have hb12 := hb11.ext he12
          have ho12 := ho11.ext he12
          refine heldF hb12 (by rfl) ?_
          refine append_sli elem_u32 ho12 (by omega) hs18 (by omega) (by omega) ?_
          intro A13 c13 w13 ho13 hg13 _
          have hb13 := hb12.grown hg13.grown (fun e => by have := ho12.row r e.symm; omega)
          have he13 : Ext w4 w13 := (he11.trans he12).grown hg13.grown (fun j hj => by have := ho12.row j hj; have := he9.size; omega)
          rw [add_mk]
          refine stW_blk hb13 (by show 0 + 4 < 5; omega) ?_
          have hg14 := set_grown w13 r (0 + 4) (.slice A13 (x.2.1 + 1) c13)
          have hb14 := hb13.set (0 + 4) (.slice A13 (x.2.1 + 1) c13)
          rw [← wordsOf_succ] at ho13
          refine ⟨⟨i + 1, (A13, x.2.1 + 1, c13), by omega, rfl, he13.grown hg14 (fun j hj => by injection hj with hj; omega), ?_, hb14, ho13.grown hg14 (fun j hj e => by injection hj with hj; have := ho13.row j e; omega)⟩, by omega⟩
          exact Nat.le_trans (Nat.le_trans (Nat.le_trans hz10 hz11) (by omega)) (Nat.le_trans hg13.grown.size hg14.size)
        refine splitW_f (decide_eq_false (by omega)) ?_
        have ei : i = ((B f.2.2).length - 14) / 4 := by omega
        have hs1 : (⟨f.2.1, a0, a1, a2, wordsOf i ((B f.2.2).drop 14)⟩ : Sup) = decS f := by rw [ei, ← ha0, ← ha1, ← ha2]; rfl
        have hfit : (decS f).Fits := decS_fits hgen
        have hpg : Pg w10 x (decS f).pages := ⟨by rw [← hs1]; exact ho10.sl, ho10.le.1⟩
        rw [hs1] at hb10
        refine boxA (ls := sLs) (sT (decS f) x) hb10 rfl ?_
        refine callW_of (rsput_calls hfit hpg) ?_
        rintro _ w11 ⟨rfl, he11⟩
        refine ⟨(⟨(putS (decS f)).1.toArray⟩, (putS (decS f)).2, ()), rfl, ?_⟩
        dsimp only
        have hb11 := hb10.ext he11
        have hpg11 := hpg.ext he11
        have ho11 := ho10.ext he11
        have he11' : Ext w4 w11 := he10.trans he11
        have hb1' := hb14.ext he11'
        have hew : Ext w w11 := he4.trans he11'
        have no : putS (decS f) ≠ (B s, 0) → getS (B s) = (sup0, 4) := fun h => by rw [hgd, if_neg h]
        refine splitW_i (fun hz => ?_) (fun hz => ?_)
        · exact setS (s := sup0) (x := (none, 0, 0)) hb1' rfl rfl fun w'' _ hx _ _ => getRet_0 (no (fun e => bne_iff_ne.1 hz (by rw [e]))) (hx w hew (by omega))
        have hz := bne_eq_false_iff_eq.1 hz
        rw [str_beq, B_mk]
        refine splitW_i (fun hz2 => ?_) (fun hz2 => ?_)
        · exact setS (s := sup0) (x := (none, 0, 0)) hb1' rfl rfl fun w'' _ hx _ _ => getRet_0 (no (fun e => by rw [e] at hz2; simp at hz2)) (hx w hew (by omega))
        have hz2 : (putS (decS f)).1 = B s := by simpa using hz2
        have hgs : getS (B s) = (decS f, 0) := by rw [hgd, if_pos (Prod.ext hz2 hz)]
        refine boxA (ls := sLs) (sT (decS f) x) hb11 rfl (setS (s := decS f) (x := x) hb1' rfl rfl fun w' _ hx hk hz => ⟨x, by rw [hgs]; rfl, ?_, hx w hew (by omega), fun a ha => by have := ho10.row a.block (by rw [ha]; rfl); have := he9.size; have := he4.size; omega⟩)
        rw [hgs]
        have ho' := ho11.grown (grown_of_set hew (hx w hew (by omega)) hk hz) (fun j hj e => by injection hj with hj; have := ho11.row j e; omega)
        exact ⟨by rw [← hs1]; exact ho'.sl, hpg11.nc⟩
    · refine new_i fun r wx hr hex hrr _ => ?_
      have hr : Blk wx r (sV sup0 (none, 0, 0)) 28 := hr
      have hrr : w4.heap.size ≤ r := by omega
      refine heldF (hb3.ext hex) (by rfl) ?_
      refine callW_of (of1 (hex)) ?_
      rintro _ wx ⟨rfl, hw⟩
      subst hw
      refine ⟨_, rfl, heldF (hb3.ext hex) (by rfl) ?_⟩
      refine callW_of (of2 (hex)) ?_
      rintro _ wx ⟨rfl, hw⟩
      subst hw
      refine ⟨_, rfl, heldF (hb3.ext hex) (by rfl) ?_⟩
      rw [wrap_i64 (x := (a0 : Int)) (by omega) (by omega), wrap_i64 (x := (a1 : Int)) (by omega) (by omega), wrap_u32_nat l2]
      refine refill (vs := sV ⟨f.2.1, a0, a1, a2, []⟩ (none, 0, 0)) hr rfl (sV_one _ _) rfl ?_
      intro w9 hb9 hx9 hk9 hz9
      have he9 : Ext w4 w9 := hx9 w4 hex hrr
      have hrlt := hb9.lt
      refine loopW_i (fun y w' => ∃ (i : Nat) (x : SLC), 14 + 4 * i ≤ (B f.2.2).length ∧ y = (((14 + 4 * i : Nat) : Int), ()) ∧ Ext w4 w' ∧ w9.heap.size ≤ w'.heap.size ∧ Blk w' r (sV ⟨f.2.1, a0, a1, a2, wordsOf i ((B f.2.2).drop 14)⟩ x) 28 ∧ Owni (numE .u32) 25 w' w9.heap.size x.1 x.2.1 x.2.2 (wordsOf i ((B f.2.2).drop 14))) (fun y => ((B f.2.2).length - y.1).toNat) ⟨0, (none, 0, 0), by omega, rfl, he9, Nat.le_refl _, hb9, Owni.nil _ _ _⟩ ?_
      rintro _ w10 ⟨i, x, hi, rfl, he10, hz10, hb10, ho10⟩
      dsimp only
      have hlx := ho10.len
      rw [wordsOf_length] at hlx
      have ew : IntKind.wrap .i64 (((14 + 4 * i : Nat) : Int) + 4) = ((14 + 4 * (i + 1) : Nat) : Int) := by rw [wrap_i64 (by omega) (by omega)]; omega
      rw [ew]
      by_cases hlt : 14 + 4 * (i + 1) ≤ (B f.2.2).length
      · refine splitW_t (decide_eq_true (by omega)) ?_
        refine draw_i fun w11 he11 _ _ => ?_
        have hb11 := hb10.ext he11
        have ho11 := ho10.ext he11
        have hz11 := he11.size
        have he11 := he10.trans he11
        refine boxF 4 x hb11 (by rfl) (guard_i ⟨by omega, by omega, by omega⟩ ?_)
        rw [Int.toNat_natCast, Int.toNat_natCast, show 14 + 4 * (i + 1) - (14 + 4 * i) = 4 by omega]
        have hcut := (hsl4.ext he11).cut (l := 14 + 4 * i) (k := 4) (m := c) (by omega) (by omega)
        rw [bV_drop, bV_take, ← List.drop_drop] at hcut
        refine callW_of (refof_calls (c := c - (14 + 4 * i)) hcut (by omega)) ?_
        rintro _ w11 ⟨rfl, hw⟩
        subst hw
        refine ⟨_, rfl, ?_⟩
        refine heldF hb11 (by rfl) ?_
        have hv := lev_lt4 (bs := (((B f.2.2).drop 14).drop (4 * i)).take 4) (by rw [List.length_take]; omega)
        rw [wrap_u32_nat hv]
        refine new_i fun r18 w12 hb18 he12 hr18 hz12 => ?_
        have hb18 : Blk w12 r18 ((numE .u32).flat [lev ((((B f.2.2).drop 14).drop (4 * i)).take 4)]) 25 := hb18
        have hs18 : Sli (numE .u32) w12 (some ⟨r18, 0, none⟩) 1 [lev ((((B f.2.2).drop 14).drop (4 * i)).take 4)] := Sli.of_blk hb18 rfl (by omega)
        have hb12 := hb11.ext he12
        have ho12 := ho11.ext he12
        refine heldF hb12 (by rfl) ?_
        refine append_sli elem_u32 ho12 (by omega) hs18 (by omega) (by omega) ?_
        intro A13 c13 w13 ho13 hg13 _
        have hb13 := hb12.grown hg13.grown (fun e => by have := ho12.row r e.symm; omega)
        have he13 : Ext w4 w13 := (he11.trans he12).grown hg13.grown (fun j hj => by have := ho12.row j hj; have := he9.size; omega)
        rw [add_mk]
        refine stW_blk hb13 (by show 0 + 4 < 5; omega) ?_
        have hg14 := set_grown w13 r (0 + 4) (.slice A13 (x.2.1 + 1) c13)
        have hb14 := hb13.set (0 + 4) (.slice A13 (x.2.1 + 1) c13)
        rw [← wordsOf_succ] at ho13
        refine ⟨⟨i + 1, (A13, x.2.1 + 1, c13), by omega, rfl, he13.grown hg14 (fun j hj => by injection hj with hj; omega), ?_, hb14, ho13.grown hg14 (fun j hj e => by injection hj with hj; have := ho13.row j e; omega)⟩, by omega⟩
        exact Nat.le_trans (Nat.le_trans (Nat.le_trans hz10 hz11) (by omega)) (Nat.le_trans hg13.grown.size hg14.size)
      refine splitW_f (decide_eq_false (by omega)) ?_
      have ei : i = ((B f.2.2).length - 14) / 4 := by omega
      have hs1 : (⟨f.2.1, a0, a1, a2, wordsOf i ((B f.2.2).drop 14)⟩ : Sup) = decS f := by rw [ei, ← ha0, ← ha1, ← ha2]; rfl
      have hfit : (decS f).Fits := decS_fits hgen
      have hpg : Pg w10 x (decS f).pages := ⟨by rw [← hs1]; exact ho10.sl, ho10.le.1⟩
      rw [hs1] at hb10
      refine boxA (ls := sLs) (sT (decS f) x) hb10 rfl ?_
      refine callW_of (rsput_calls hfit hpg) ?_
      rintro _ w11 ⟨rfl, he11⟩
      refine ⟨(⟨(putS (decS f)).1.toArray⟩, (putS (decS f)).2, ()), rfl, ?_⟩
      dsimp only
      have hb11 := hb10.ext he11
      have hpg11 := hpg.ext he11
      have ho11 := ho10.ext he11
      have he11' : Ext w4 w11 := he10.trans he11
      have hb1' := hb14.ext he11'
      have hew : Ext w w11 := he4.trans he11'
      have no : putS (decS f) ≠ (B s, 0) → getS (B s) = (sup0, 4) := fun h => by rw [hgd, if_neg h]
      refine splitW_i (fun hz => ?_) (fun hz => ?_)
      · exact setS (s := sup0) (x := (none, 0, 0)) hb1' rfl rfl fun w'' _ hx _ _ => getRet_0 (no (fun e => bne_iff_ne.1 hz (by rw [e]))) (hx w hew (by omega))
      have hz := bne_eq_false_iff_eq.1 hz
      rw [str_beq, B_mk]
      refine splitW_i (fun hz2 => ?_) (fun hz2 => ?_)
      · exact setS (s := sup0) (x := (none, 0, 0)) hb1' rfl rfl fun w'' _ hx _ _ => getRet_0 (no (fun e => by rw [e] at hz2; simp at hz2)) (hx w hew (by omega))
      have hz2 : (putS (decS f)).1 = B s := by simpa using hz2
      have hgs : getS (B s) = (decS f, 0) := by rw [hgd, if_pos (Prod.ext hz2 hz)]
      refine boxA (ls := sLs) (sT (decS f) x) hb11 rfl (setS (s := decS f) (x := x) hb1' rfl rfl fun w' _ hx hk hz => ⟨x, by rw [hgs]; rfl, ?_, hx w hew (by omega), fun a ha => by have := ho10.row a.block (by rw [ha]; rfl); have := he9.size; have := he4.size; omega⟩)
      rw [hgs]
      have ho' := ho11.grown (grown_of_set hew (hx w hew (by omega)) hk hz) (fun j hj e => by injection hj with hj; have := ho11.row j e; omega)
      exact ⟨by rw [← hs1]; exact ho'.sl, hpg11.nc⟩
  · refine new_i fun r wx hr hex hrr _ => ?_
    have hr : Blk wx r (sV sup0 (none, 0, 0)) 28 := hr
    have hrr : w4.heap.size ≤ r := by omega
    refine heldF (hb3.ext hex) (by rfl) ?_
    refine callW_of (of0 (hex)) ?_
    rintro _ wx ⟨rfl, hw⟩
    subst hw
    refine ⟨_, rfl, heldF (hb3.ext hex) (by rfl) ?_⟩
    refine callW_of (of1 (hex)) ?_
    rintro _ wx ⟨rfl, hw⟩
    subst hw
    refine ⟨_, rfl, heldF (hb3.ext hex) (by rfl) ?_⟩
    refine callW_of (of2 (hex)) ?_
    rintro _ wx ⟨rfl, hw⟩
    subst hw
    refine ⟨_, rfl, heldF (hb3.ext hex) (by rfl) ?_⟩
    rw [wrap_i64 (x := (a0 : Int)) (by omega) (by omega), wrap_i64 (x := (a1 : Int)) (by omega) (by omega), wrap_u32_nat l2]
    refine refill (vs := sV ⟨f.2.1, a0, a1, a2, []⟩ (none, 0, 0)) hr rfl (sV_one _ _) rfl ?_
    intro w9 hb9 hx9 hk9 hz9
    have he9 : Ext w4 w9 := hx9 w4 hex hrr
    have hrlt := hb9.lt
    refine loopW_i (fun y w' => ∃ (i : Nat) (x : SLC), 14 + 4 * i ≤ (B f.2.2).length ∧ y = (((14 + 4 * i : Nat) : Int), ()) ∧ Ext w4 w' ∧ w9.heap.size ≤ w'.heap.size ∧ Blk w' r (sV ⟨f.2.1, a0, a1, a2, wordsOf i ((B f.2.2).drop 14)⟩ x) 28 ∧ Owni (numE .u32) 25 w' w9.heap.size x.1 x.2.1 x.2.2 (wordsOf i ((B f.2.2).drop 14))) (fun y => ((B f.2.2).length - y.1).toNat) ⟨0, (none, 0, 0), by omega, rfl, he9, Nat.le_refl _, hb9, Owni.nil _ _ _⟩ ?_
    rintro _ w10 ⟨i, x, hi, rfl, he10, hz10, hb10, ho10⟩
    dsimp only
    have hlx := ho10.len
    rw [wordsOf_length] at hlx
    have ew : IntKind.wrap .i64 (((14 + 4 * i : Nat) : Int) + 4) = ((14 + 4 * (i + 1) : Nat) : Int) := by rw [wrap_i64 (by omega) (by omega)]; omega
    rw [ew]
    by_cases hlt : 14 + 4 * (i + 1) ≤ (B f.2.2).length
    · refine splitW_t (decide_eq_true (by omega)) ?_
      refine draw_i fun w11 he11 _ _ => ?_
      have hb11 := hb10.ext he11
      have ho11 := ho10.ext he11
      have hz11 := he11.size
      have he11 := he10.trans he11
      refine boxF 4 x hb11 (by rfl) (guard_i ⟨by omega, by omega, by omega⟩ ?_)
      rw [Int.toNat_natCast, Int.toNat_natCast, show 14 + 4 * (i + 1) - (14 + 4 * i) = 4 by omega]
      have hcut := (hsl4.ext he11).cut (l := 14 + 4 * i) (k := 4) (m := c) (by omega) (by omega)
      rw [bV_drop, bV_take, ← List.drop_drop] at hcut
      refine callW_of (refof_calls (c := c - (14 + 4 * i)) hcut (by omega)) ?_
      rintro _ w11 ⟨rfl, hw⟩
      subst hw
      refine ⟨_, rfl, ?_⟩
      refine heldF hb11 (by rfl) ?_
      have hv := lev_lt4 (bs := (((B f.2.2).drop 14).drop (4 * i)).take 4) (by rw [List.length_take]; omega)
      rw [wrap_u32_nat hv]
      refine new_i fun r18 w12 hb18 he12 hr18 hz12 => ?_
      have hb18 : Blk w12 r18 ((numE .u32).flat [lev ((((B f.2.2).drop 14).drop (4 * i)).take 4)]) 25 := hb18
      have hs18 : Sli (numE .u32) w12 (some ⟨r18, 0, none⟩) 1 [lev ((((B f.2.2).drop 14).drop (4 * i)).take 4)] := Sli.of_blk hb18 rfl (by omega)
      have hb12 := hb11.ext he12
      have ho12 := ho11.ext he12
      refine heldF hb12 (by rfl) ?_
      refine append_sli elem_u32 ho12 (by omega) hs18 (by omega) (by omega) ?_
      intro A13 c13 w13 ho13 hg13 _
      have hb13 := hb12.grown hg13.grown (fun e => by have := ho12.row r e.symm; omega)
      have he13 : Ext w4 w13 := (he11.trans he12).grown hg13.grown (fun j hj => by have := ho12.row j hj; have := he9.size; omega)
      rw [add_mk]
      refine stW_blk hb13 (by show 0 + 4 < 5; omega) ?_
      have hg14 := set_grown w13 r (0 + 4) (.slice A13 (x.2.1 + 1) c13)
      have hb14 := hb13.set (0 + 4) (.slice A13 (x.2.1 + 1) c13)
      rw [← wordsOf_succ] at ho13
      refine ⟨⟨i + 1, (A13, x.2.1 + 1, c13), by omega, rfl, he13.grown hg14 (fun j hj => by injection hj with hj; omega), ?_, hb14, ho13.grown hg14 (fun j hj e => by injection hj with hj; have := ho13.row j e; omega)⟩, by omega⟩
      exact Nat.le_trans (Nat.le_trans (Nat.le_trans hz10 hz11) (by omega)) (Nat.le_trans hg13.grown.size hg14.size)
    refine splitW_f (decide_eq_false (by omega)) ?_
    have ei : i = ((B f.2.2).length - 14) / 4 := by omega
    have hs1 : (⟨f.2.1, a0, a1, a2, wordsOf i ((B f.2.2).drop 14)⟩ : Sup) = decS f := by rw [ei, ← ha0, ← ha1, ← ha2]; rfl
    have hfit : (decS f).Fits := decS_fits hgen
    have hpg : Pg w10 x (decS f).pages := ⟨by rw [← hs1]; exact ho10.sl, ho10.le.1⟩
    rw [hs1] at hb10
    refine boxA (ls := sLs) (sT (decS f) x) hb10 rfl ?_
    refine callW_of (rsput_calls hfit hpg) ?_
    rintro _ w11 ⟨rfl, he11⟩
    refine ⟨(⟨(putS (decS f)).1.toArray⟩, (putS (decS f)).2, ()), rfl, ?_⟩
    dsimp only
    have hb11 := hb10.ext he11
    have hpg11 := hpg.ext he11
    have ho11 := ho10.ext he11
    have he11' : Ext w4 w11 := he10.trans he11
    have hb1' := hb14.ext he11'
    have hew : Ext w w11 := he4.trans he11'
    have no : putS (decS f) ≠ (B s, 0) → getS (B s) = (sup0, 4) := fun h => by rw [hgd, if_neg h]
    refine splitW_i (fun hz => ?_) (fun hz => ?_)
    · exact setS (s := sup0) (x := (none, 0, 0)) hb1' rfl rfl fun w'' _ hx _ _ => getRet_0 (no (fun e => bne_iff_ne.1 hz (by rw [e]))) (hx w hew (by omega))
    have hz := bne_eq_false_iff_eq.1 hz
    rw [str_beq, B_mk]
    refine splitW_i (fun hz2 => ?_) (fun hz2 => ?_)
    · exact setS (s := sup0) (x := (none, 0, 0)) hb1' rfl rfl fun w'' _ hx _ _ => getRet_0 (no (fun e => by rw [e] at hz2; simp at hz2)) (hx w hew (by omega))
    have hz2 : (putS (decS f)).1 = B s := by simpa using hz2
    have hgs : getS (B s) = (decS f, 0) := by rw [hgd, if_pos (Prod.ext hz2 hz)]
    refine boxA (ls := sLs) (sT (decS f) x) hb11 rfl (setS (s := decS f) (x := x) hb1' rfl rfl fun w' _ hx hk hz => ⟨x, by rw [hgs]; rfl, ?_, hx w hew (by omega), fun a ha => by have := ho10.row a.block (by rw [ha]; rfl); have := he9.size; have := he4.size; omega⟩)
    rw [hgs]
    have ho' := ho11.grown (grown_of_set hew (hx w hew (by omega)) hk hz) (fun j hj e => by injection hj with hj; have := ho11.row j e; omega)
    exact ⟨by rw [← hs1]; exact ho'.sl, hpg11.nc⟩
end Go.Proofs.Ytiiemgndnpflbaa.V
