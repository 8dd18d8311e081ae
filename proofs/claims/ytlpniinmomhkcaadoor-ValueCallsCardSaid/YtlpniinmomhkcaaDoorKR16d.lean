/- Contracts of the document's answer (16): Read, first, Unkey. -/
import Derived.Test.YtlpniinmomhkcaaDoorKR16c
set_option linter.unusedVariables false
set_option linter.unusedSimpArgs false
namespace Go.Proofs.YtlpniinmomhkcaaDoor.V
open Go Go.Proofs Go.RowKit

theorem rread_calls (w : World) (s : ByteArray) (hs : s.size ≤ 1000000) : Calls Tryd.prog 27 #[.string s] w (Ret fun v w' => v = .tuple #[.agg #[.int .i64 (rdV (readC (B s))).1.1, .int .i64 (rdV (readC (B s))).1.2.1, .string (rdV (readC (B s))).1.2.2.1], .int .i64 (rdV (readC (B s))).2.1] ∧ Ext w w') := by
  apply calls27
  unfold S27
  have hsz := B_size s
  refine new_i fun r w1 hb1 he1 hr1 hs1 => ?_
  have fin : ∀ {w4 : World} (d : Cell) (n : Int) (R : Option Cell), Ext w1 w4 → rdV R = (cT d, n, ()) → (guardW ((#[(.int .i64 d.1), (.int .i64 d.2.1), (.string d.2.2)] : Array Value).size = 3) <|
      stAW (⟨r, 0, none⟩ : Addr) [(.int .i64 d.1), (.int .i64 d.2.1), (.string d.2.2)] <|
      ldAW [(.int .i64), (.int .i64), .str] (⟨r, 0, none⟩ : Addr) fun (u7 : (Int × Int × ByteArray × Unit)) => fun w' => Value.tuple #[(.agg #[(.int .i64 u7.1), (.int .i64 u7.2.1), (.string u7.2.2.1)]), (.int .i64 n)] = .tuple #[.agg #[.int .i64 (rdV R).1.1, .int .i64 (rdV R).1.2.1, .string (rdV R).1.2.2.1], .int .i64 (rdV R).2.1] ∧ Ext w w') w4 := by
    intro w4 d n R he hR
    rw [hR]
    refine refill_g (vs := cellE.f d) (hb1.ext he) (by rfl) (cellE.one d) (by rfl) ?_
    intro w5 hb5 hg5
    refine boxA (ls := [.int .i64, .int .i64, .str]) (cT d) hb5 rfl ?_
    exact ⟨rfl, (he1.trans he).grown hg5 (fun j hj => by cases hj; omega)⟩
  rw [str_beq]
  have eN : B (ByteArray.mk #[110, 117, 108, 108]) = [110, 117, 108, 108] := rfl
  rw [eN]
  have qN : cellQ cell0 := cellQ_mk (by omega) (by omega) (by omega) (by omega) (by decide)
  refine splitW_i (fun h1 => ?_) (fun h1 => ?_)
  · have h1 := of_decide_eq_true h1
    have hR : readC (B s) = some cell0 := by
      rw [h1]
      exact readC_txt (c := cell0) (by decide +kernel) qN
    rw [hR]
    exact fin cell0 0 (some cell0) (Ext.refl _) rfl
  have nN := of_decide_eq_false h1
  refine callW_of (rcand_calls w1 s hs) ?_
  rintro _ w2 ⟨⟨c, rfl, q, hc⟩, he2⟩
  refine ⟨cT c, rfl, ?_⟩
  refine box_i (vs := cellE.f c) (by rfl) (cellE.one c) ?_ (by rfl)
  intro r4 w3 hb3 he3 hr3
  rw [empty_beq]
  refine splitW_i (fun h2 => ?_) (fun h2 => ?_)
  · have h2 := of_decide_eq_true h2
    have hR : readC (B s) = none := by unfold readC; rw [if_neg (fun hh => hh.1 h2)]
    rw [hR]
    exact fin cell0 160 none (he2.trans he3) rfl
  have h2 := of_decide_eq_false h2
  refine boxA (ls := [.int .i64, .int .i64, .str]) (cT c) hb3 rfl ?_
  refine callW_of (rtext_calls w3 q) ?_
  rintro _ w4 ⟨rfl, he4⟩
  refine ⟨_, rfl, ?_⟩
  rw [str_beq, B_mkB]
  refine splitW_i (fun h3 => ?_) (fun h3 => ?_)
  · have h3 : txt c ≠ B s := by simpa using h3
    have hR : readC (B s) = none := by
      cases hr : readC (B s) with
      | none => rfl
      | some d =>
        exfalso
        obtain ⟨kd, ht, qd⟩ := readC_some (by omega) hr
        exact h3 (by rw [hc d kd qd ht nN]; exact ht)
    rw [hR]
    exact fin cell0 160 none ((he2.trans he3).trans he4) rfl
  · have h3 : txt c = B s := by simpa using h3
    have kc : cellOK c = true := by
      by_cases hk : cellOK c = true
      · exact hk
      · exfalso
        unfold txt at h3
        rw [if_neg hk] at h3
        exact h2 h3.symm
    have hR : readC (B s) = some c := by rw [← h3]; exact readC_txt kc q
    rw [hR]
    refine boxA (ls := [.int .i64, .int .i64, .str]) (cT c) (hb3.ext he4) rfl ?_
    exact fin c 0 (some c) ((he2.trans he3).trans he4) rfl
theorem drop_one {l : List UInt8} {i : Nat} (h : i < l.length) : l.drop i = l.getD i 0 :: l.drop (i + 1) := by
  rw [List.drop_eq_getElem_cons h, List.getD_eq_getElem?_getD, List.getElem?_eq_getElem h]
  rfl
/-- What first tells. -/
def FirstOk (s : List UInt8) (c : Cell) (n : Int) : Prop :=
  (n = 0 ∧ (unkeyC s = none ∨ ∃ d r, unkeyC s = some (d, r) ∧ cellOK d = false)) ∨ (∃ k : Nat, n = (k : Int) ∧ 0 < k ∧ k ≤ s.length ∧ unkeyC s = some (c, s.drop k))
theorem first_calls (w : World) (s : ByteArray) (hn : B s ≠ []) (hs : s.size ≤ 1000000) : Calls Tryd.prog 45 #[.string s] w (Ret fun v w' => (∃ (c : Cell) (n : Int), v = .tuple #[.agg #[.int .i64 c.1, .int .i64 c.2.1, .string c.2.2], .int .i64 n] ∧ FirstOk (B s) c n) ∧ Ext w w') := by
  apply calls45
  unfold S45
  have hsz := B_size s
  obtain ⟨x, r0, hx⟩ : ∃ x r0, B s = x :: r0 := by
    cases hB : B s with
    | nil => exact absurd hB hn
    | cons x r0 => exact ⟨x, r0, rfl⟩
  have hlen : (B s).length = r0.length + 1 := by rw [hx]; rfl
  have hxl := x.toNat_lt
  have hbt : ∀ (i : Nat), i < (B s).length → bt s (i : Int) = (((B s).getD i 0).toNat : Int) := by
    intro i hi
    rw [bt_eq (by omega) (by omega), Int.toNat_natCast]
  have hb0 : bt s 0 = (x.toNat : Int) := by
    have := hbt 0 (by omega)
    rw [hx] at this
    exact this
  refine new_i fun r1 w1 hb1 he1 hr1 hs1 => ?_
  refine ⟨⟨by omega, by omega⟩, ?_⟩
  rw [hb0, wrap_i64 (by omega) (by omega)]
  refine box_i (vs := cellE.f ((x.toNat : Int), 0, ByteArray.empty)) (by rfl) (cellE.one ((x.toNat : Int), 0, ByteArray.empty)) ?_ (by rfl)
  intro r2 w2 hb2 he2 hr2
  have hb1 := hb1.ext he2
  have hx2 := he1.trans he2
  have hr12 : r1 ≠ r2 := by omega
  have hwr1 : w.heap.size ≤ r1 := by omega
  have hwr2 : w.heap.size ≤ r2 := by omega
  have fin : ∀ {w5 : World} (c : Cell) (n : Int), Blk w5 r2 (cellE.f c) 23 → Blk w5 r1 [.int .i64 0, .int .i64 0, .string ByteArray.empty] 23 → Ext w w5 → FirstOk (B s) c n →
      (ldAW [(.int .i64), (.int .i64), .str] (⟨r2, 0, none⟩ : Addr) fun (u11 : (Int × Int × ByteArray × Unit)) =>
        guardW ((#[(.int .i64 u11.1), (.int .i64 u11.2.1), (.string u11.2.2.1)] : Array Value).size = 3) <|
        stAW (⟨r1, 0, none⟩ : Addr) [(.int .i64 u11.1), (.int .i64 u11.2.1), (.string u11.2.2.1)] <|
        ldAW [(.int .i64), (.int .i64), .str] (⟨r1, 0, none⟩ : Addr) fun (u12 : (Int × Int × ByteArray × Unit)) => fun w' => (∃ (c : Cell) (m : Int), Value.tuple #[(.agg #[(.int .i64 u12.1), (.int .i64 u12.2.1), (.string u12.2.2.1)]), .int .i64 n] = .tuple #[.agg #[.int .i64 c.1, .int .i64 c.2.1, .string c.2.2], .int .i64 m] ∧ FirstOk (B s) c m) ∧ Ext w w') w5 := by
    intro w5 c n hb3 hb1 he hP
    refine boxA (ls := [.int .i64, .int .i64, .str]) (cT c) hb3 rfl ?_
    refine refill_g (vs := cellE.f c) hb1 (by rfl) (cellE.one c) (by rfl) ?_
    intro w6 hb6 hg6
    refine boxA (ls := [.int .i64, .int .i64, .str]) (cT c) hb6 rfl ?_
    exact ⟨⟨c, n, rfl, hP⟩, he.grown hg6 (fun j hj => by cases hj; omega)⟩
  refine box0 (l := .int .i64) (x.toNat : Int) hb2 (by rfl) ?_
  by_cases k0 : x = 0
  · subst k0
    refine splitW_t (by rfl) ?_
    refine fin (((0 : UInt8).toNat : Int), 0, ByteArray.empty) 1 hb2 hb1 hx2 (.inr ⟨1, rfl, by omega, by omega, ?_⟩)
    rw [hx, unkeyC_o (by decide) (by decide) (by decide)]
    rfl
  refine splitW_f (beq_eq_false_iff_ne.2 (by intro e; exact k0 (UInt8.toNat_inj.1 (show x.toNat = 0 by omega)))) ?_
  by_cases k1 : x = 1
  · subst k1
    refine splitW_t (by rfl) ?_
    by_cases h9 : s.size < 9
    · refine splitW_t (decide_eq_true (by omega)) ?_
      refine fin _ 0 hb2 hb1 hx2 (.inl ⟨rfl, .inl ?_⟩)
      rw [hx, unkeyC_1, if_pos (by omega)]
    · refine splitW_f (decide_eq_false (by omega)) ?_
      refine loopW_i (fun y w' => w' = w2 ∧ ∃ i : Nat, i ≤ 8 ∧ y = ((bev (r0.take i) : Int), (i : Int) + 1, ())) (fun y => (9 - y.2.1).toNat) ⟨rfl, 0, by omega, rfl⟩ ?_
      rintro _ w6 ⟨hw, i, hi, rfl⟩
      subst hw
      dsimp only
      by_cases hlt : i < 8
      · refine splitW_t (decide_eq_true (by omega)) ?_
        refine ⟨⟨by omega, by omega⟩, ?_⟩
        rw [show (i : Int) + 1 = ((i + 1 : Nat) : Int) by omega, hbt (i + 1) (by omega)]
        have hgd : (B s).getD (i + 1) 0 = r0.getD i 0 := by rw [hx]; rfl
        rw [hgd]
        have hget : r0[i]? = some (r0.getD i 0) := by rw [List.getD_eq_getElem?_getD, List.getElem?_eq_getElem (by omega)]; rfl
        have hbl := bev_lt (r0.take i)
        rw [List.length_take, Nat.min_eq_left (by omega)] at hbl
        have hp : 256 ^ i ≤ 256 ^ 7 := Nat.pow_le_pow_right (by omega) (by omega)
        rw [or_step (by omega), ← bev_snoc, ← take_snoc hget, wrap_i64 (by omega) (by omega)]
        exact ⟨⟨rfl, i + 1, by omega, rfl⟩, by omega⟩
      · obtain rfl : i = 8 := by omega
        refine splitW_f (by rfl) ?_
        have hbl := bev_lt (r0.take 8)
        rw [List.length_take, Nat.min_eq_left (by omega)] at hbl
        have ew : IntKind.wrap .i64 (IntKind.wrap .u64 ((bev (r0.take 8) : Int) - 9223372036854775808)) = (bev (r0.take 8) : Int) - 9223372036854775808 := by
          rw [wrap_u64, wrap_i64']
          split <;> omega
        rw [ew]
        refine stF 1 hb2 (show (1 : Nat) < 3 by omega) ?_
        intro w7 hb7 hg7
        refine fin (1, (bev (r0.take 8) : Int) - 9223372036854775808, ByteArray.empty) 9 hb7 (blk_g hb1 hg7 hr12) (hx2.grown hg7 (fun j hj => by cases hj; omega)) (.inr ⟨9, rfl, by omega, by omega, ?_⟩)
        rw [hx, unkeyC_1, if_neg (by omega)]
        rfl
  refine splitW_f (beq_eq_false_iff_ne.2 (by intro e; exact k1 (UInt8.toNat_inj.1 (show x.toNat = 1 by omega)))) ?_
  by_cases k2 : x = 2
  · subst k2
    refine splitW_t (by rfl) ?_
    by_cases h2 : s.size < 2
    · refine splitW_t (decide_eq_true (by omega)) ?_
      refine fin _ 0 hb2 hb1 hx2 (.inl ⟨rfl, .inl ?_⟩)
      obtain rfl : r0 = [] := List.eq_nil_of_length_eq_zero (by omega)
      rw [hx, unkeyC_2n]
    · refine splitW_f (decide_eq_false (by omega)) ?_
      refine ⟨⟨by omega, by omega⟩, ?_⟩
      obtain ⟨y, r, rfl⟩ : ∃ y r, r0 = y :: r := by
        cases r0 with
        | nil => simp at hlen; omega
        | cons y r => exact ⟨y, r, rfl⟩
      have hby : bt s 1 = (y.toNat : Int) := by
        have := hbt 1 (by omega)
        rw [hx] at this
        exact this
      have hyl := y.toNat_lt
      rw [hby]
      refine splitW_i (fun g => ?_) (fun g => ?_)
      · have g := of_decide_eq_true g
        refine fin _ 0 hb2 hb1 hx2 (.inl ⟨rfl, .inr ⟨_, _, by rw [hx, unkeyC_2], ?_⟩⟩)
        cases hk : cellOK (mk0 2 y.toNat []) with
        | false => rfl
        | true =>
          have := (ok2 hk rfl).2
          simp only [mk0] at this
          omega
      · refine ⟨⟨by omega, by omega⟩, ?_⟩
        rw [wrap_i64 (by omega) (by omega)]
        refine stF 1 hb2 (show (1 : Nat) < 3 by omega) ?_
        intro w7 hb7 hg7
        refine fin (2, (y.toNat : Int), ByteArray.empty) 2 hb7 (blk_g hb1 hg7 hr12) (hx2.grown hg7 (fun j hj => by cases hj; omega)) (.inr ⟨2, rfl, by omega, by omega, ?_⟩)
        rw [hx, unkeyC_2]
        rfl
  refine splitW_f (beq_eq_false_iff_ne.2 (by intro e; exact k2 (UInt8.toNat_inj.1 (show x.toNat = 2 by omega)))) ?_
  by_cases k3 : x = 3
  · subst k3
    refine splitW_t (by rfl) ?_
    have h1d : (B s).drop 1 = r0 := by rw [hx]; rfl
    have hbad : unesc ((B s).drop 1) = none → ∀ c, FirstOk (B s) c 0 := by
      intro h c
      refine .inl ⟨rfl, .inl ?_⟩
      rw [h1d] at h
      rw [hx, unkeyC_3, h]
      rfl
    refine loopW_i (fun y w' => ∃ (i : Nat) (u : List UInt8), 1 ≤ i ∧ i ≤ (B s).length ∧ y = ((i : Int), ()) ∧ Ext w w' ∧ Blk w' r2 (cellE.f (3, 0, mkB u)) 23 ∧ Blk w' r1 [.int .i64 0, .int .i64 0, .string ByteArray.empty] 23 ∧ u.length ≤ i ∧ unesc ((B s).drop 1) = (unesc ((B s).drop i)).map (fun z => (u ++ z.1, z.2))) (fun y => (s.size - y.1).toNat)
      ⟨1, [], by omega, by omega, rfl, hx2, hb2, hb1, by simp, by simp⟩ ?_
    rintro _ w4 ⟨i, u, hi1, hi2, rfl, he4, hb4, hb14, hul, hu⟩
    dsimp only
    by_cases hlt : i < (B s).length
    · refine splitW_t (decide_eq_true (by omega)) ?_
      refine ⟨⟨by omega, by omega⟩, ?_⟩
      have hd1 := drop_one hlt
      rw [wrap_i64 (x := (i : Int) + 1) (by omega) (by omega), hbt i hlt]
      by_cases hc0 : (B s).getD i 0 = 0
      · rw [hc0] at hd1 ⊢
        refine splitW_f (by rfl) ?_
        by_cases hend : i + 1 = (B s).length
        · refine splitW_t (beq_iff_eq.2 (by omega)) ?_
          refine fin _ 0 hb4 hb14 he4 (hbad ?_ _)
          rw [hu, hd1, List.drop_of_length_le (by omega)]
          rfl
        · refine splitW_f (beq_eq_false_iff_ne.2 (by omega)) ?_
          refine ⟨⟨by omega, by omega⟩, ?_⟩
          have hd2 := drop_one (l := B s) (i := i + 1) (by omega)
          rw [hd2] at hd1
          rw [show (i : Int) + 1 = ((i + 1 : Nat) : Int) by omega, hbt (i + 1) (by omega)]
          generalize (B s).getD (i + 1) 0 = y at hd1
          by_cases hy0 : y = 0
          · subst hy0
            refine splitW_t (by rfl) ?_
            rw [wrap_i64 (by omega) (by omega)]
            refine fin _ _ hb4 hb14 he4 (.inr ⟨i + 2, by omega, by omega, by omega, ?_⟩)
            rw [hd1, unesc_00, h1d] at hu
            rw [hx, unkeyC_3, hu, ← hx]
            simp [mk0, mkB]
          · refine splitW_f (beq_eq_false_iff_ne.2 (u8_ne0 hy0)) ?_
            refine ⟨⟨by omega, by omega⟩, ?_⟩
            by_cases hyf : y = 255
            · subst hyf
              refine splitW_f (by rfl) ?_
              refine boxF (l := .str) 2 (mkB u) hb4 (by rfl) ?_
              refine ⟨?_, ?_⟩
              · rw [mkB_size]
                simp only [IntKind.max]
                show ((_ + (1 : Nat) : Nat) : Int) ≤ 9223372036854775807
                omega
              refine stF 2 hb4 (show (2 : Nat) < 3 by omega) ?_
              intro w5 hb5 hg5
              rw [wrap_i64 (by omega) (by omega)]
              have e : mkB u ++ ByteArray.mk #[0] = mkB (u ++ [0]) := by
                apply B_inj
                rw [B_append, B_mkB, B_mkB]
                rfl
              rw [e] at hb5
              refine ⟨⟨i + 2, u ++ [0], by omega, by omega, by congr 1, he4.grown hg5 (fun j hj => by cases hj; omega), hb5, blk_g hb14 hg5 hr12, by simp; omega, ?_⟩, by omega⟩
              rw [hu, hd1, unesc_0f]
              cases unesc ((B s).drop (i + 1 + 1)) <;> simp
            · have hy2 : (y.toNat : Int) ≠ 255 := by
                intro e
                exact hyf (UInt8.toNat_inj.1 (show y.toNat = 255 by omega))
              refine splitW_t (bne_iff_ne.2 hy2) ?_
              refine fin _ 0 hb4 hb14 he4 (hbad ?_ _)
              rw [hu, hd1, unesc_0x hy0 hyf]
              rfl
      · refine splitW_t (bne_iff_ne.2 (u8_ne0 hc0)) ?_
        refine draw_i fun w5 he5 _ _ => ?_
        have hb5 := hb4.ext he5
        refine boxF (l := .str) 2 (mkB u) hb5 (by rfl) ?_
        refine ⟨⟨by omega, by omega, by omega⟩, ?_⟩
        have ex : s.extract (Int.toNat (i : Int)) (Int.toNat ((i : Int) + 1)) = mkB [(B s).getD i 0] := by
          apply B_inj
          rw [B_extract, B_mkB, Int.toNat_natCast, show ((i : Int) + 1).toNat - i = 1 by omega, hd1]
          rfl
        rw [ex]
        refine ⟨?_, ?_⟩
        · rw [mkB_size, mkB_size]
          simp only [IntKind.max]
          show ((_ + (1 : Nat) : Nat) : Int) ≤ 9223372036854775807
          omega
        refine stF 2 hb5 (show (2 : Nat) < 3 by omega) ?_
        intro w6 hb6 hg6
        have e : mkB u ++ mkB [(B s).getD i 0] = mkB (u ++ [(B s).getD i 0]) := by
          apply B_inj
          rw [B_append, B_mkB, B_mkB, B_mkB]
        rw [e] at hb6
        refine ⟨⟨i + 1, u ++ [(B s).getD i 0], by omega, by omega, rfl, (he4.trans he5).grown hg6 (fun j hj => by cases hj; omega), hb6, blk_g (hb14.ext he5) hg6 hr12, by simp; omega, ?_⟩, by omega⟩
        rw [hu, hd1, unesc_b hc0]
        cases unesc ((B s).drop (i + 1)) <;> simp
    · obtain rfl : i = (B s).length := by omega
      refine splitW_f (decide_eq_false (by omega)) ?_
      refine fin _ 0 hb4 hb14 he4 (hbad ?_ _)
      rw [hu, List.drop_of_length_le (by omega)]
      rfl
  refine splitW_f (beq_eq_false_iff_ne.2 (by intro e; exact k3 (UInt8.toNat_inj.1 (show x.toNat = 3 by omega)))) ?_
  refine fin _ 0 hb2 hb1 hx2 (.inl ⟨rfl, .inr ⟨_, _, by rw [hx, unkeyC_o k1 k2 k3], ?_⟩⟩)
  cases hk : cellOK (mk0 x.toNat 0 []) with
  | false => rfl
  | true =>
    exfalso
    have h0 : x.toNat ≠ 0 := fun e => k0 (UInt8.toNat_inj.1 e)
    have h1 : x.toNat ≠ 1 := fun e => k1 (UInt8.toNat_inj.1 e)
    have h2 : x.toNat ≠ 2 := fun e => k2 (UInt8.toNat_inj.1 e)
    have h3 : x.toNat ≠ 3 := fun e => k3 (UInt8.toNat_inj.1 e)
    have := cellOK_kind hk
    simp only [mk0] at this
    omega
theorem runkey_calls (w : World) (s : ByteArray) (hs : s.size ≤ 1000000) : Calls Tryd.prog 26 #[.string s] w (Ret (UkRes w (unkeyR (B s)))) := by
  apply calls26
  unfold S26
  have hsz := B_size s
  refine loopW_i (fun y w' => ∃ (A : Option Addr) (n c : Nat) (acc : List Cell) (s' : ByteArray), y = (s', (A, n, c), ()) ∧ Ext w w' ∧ Owni cellE 23 w' w.heap.size A n c acc ∧ n + s'.size ≤ s.size ∧ unkeyR (B s) = (unkeyR (B s')).map (acc ++ ·))
    (fun y => y.1.size) ⟨none, 0, 0, [], s, rfl, Ext.refl _, Owni.nil _ _ _, by omega, by simp⟩ ?_
  rintro _ w2 ⟨A, n, c, acc, s', rfl, he, ho, hn, hu⟩
  dsimp only
  have hsz' := B_size s'
  by_cases hnil : B s' = []
  · have : s'.size = 0 := by rw [hsz', hnil]; rfl
    refine splitW_f (decide_eq_false (by omega)) ?_
    refine ⟨he, (A, n, c), ?_⟩
    rw [hu, hnil, unkeyR_nil]
    simp only [Option.map_some, List.append_nil]
    exact ⟨trivial, ho.sl⟩
  · have hpos : 0 < (B s').length := List.length_pos_iff.2 hnil
    refine splitW_t (decide_eq_true (by omega)) ?_
    refine callW_of (first_calls w2 s' hnil (by omega)) ?_
    rintro _ w3 ⟨⟨x, m, rfl, hF⟩, he3⟩
    refine ⟨(cT x, m, ()), rfl, ?_⟩
    refine box_i (vs := cellE.f x) (by rfl) (cellE.one x) ?_ (by rfl)
    intro r4 w4 hb4 he4 _
    have hx4 := (he.trans he3).trans he4
    rcases hF with ⟨rfl, hF⟩ | ⟨k, rfl, hk0, hk1, hF⟩
    · refine splitW_t (by rfl) ?_
      refine ⟨hx4, (none, 0, 0), ?_⟩
      have : unkeyR (B s') = none := by
        rcases hF with hF | ⟨d, r, hF, hd⟩
        · exact unkeyR_none hnil hF
        · rw [unkeyR_some hnil hF, if_neg (by rw [hd]; simp)]
      rw [hu, this]
      rfl
    · refine splitW_f (beq_eq_false_iff_ne.2 (by show ((k : Nat) : Int) ≠ 0; omega)) ?_
      refine boxA (ls := [.int .i64, .int .i64, .str]) (cT x) hb4 rfl ?_
      refine callW_of (rvcheck_calls w4 x) ?_
      rintro _ w5 ⟨rfl, he5⟩
      have hx5 := hx4.trans he5
      have hstep := unkeyR_some hnil hF
      refine ⟨_, rfl, splitW_i (fun hne => ?_) (fun hne => ?_)⟩
      · have hxk : ¬ cellOK x = true := by
          intro hh
          unfold cellE' at hne
          rw [if_pos hh] at hne
          simp at hne
        refine ⟨hx5, (none, 0, 0), ?_⟩
        rw [hu, hstep, if_neg hxk]
        rfl
      · have hxk : cellOK x = true := by
          unfold cellE' at hne
          split at hne
          · rename_i hh; exact hh
          · simp at hne
        refine boxA (ls := [.int .i64, .int .i64, .str]) (cT x) (hb4.ext he5) rfl ?_
        have ho5 := ((ho.ext he3).ext he4).ext he5
        refine append_newi (E := cellE) (ys := [x]) (by rfl) rfl elem_cell ho5 hx5.size (by omega) (by omega) ?_
        intro A7 c7 w7 ho7 hg7
        refine ⟨⟨by show (0 : Int) ≤ (k : Int); omega, by show (k : Int) ≤ _; omega⟩, ?_⟩
        have ex : s'.extract (Int.toNat (k : Int)) s'.size = mkB ((B s').drop k) := by
          apply B_inj
          rw [B_extract, B_mkB, Int.toNat_natCast, List.take_of_length_le (by rw [List.length_drop]; omega)]
        show (∃ (A : Option Addr) (n c : Nat) (acc : List Cell) (s'' : ByteArray), ((s'.extract (Int.toNat (k : Int)) s'.size, (A7, _, c7), ()) : ByteArray × (Option Addr × Nat × Nat) × Unit) = (s'', (A, n, c), ()) ∧ _) ∧ (s'.extract (Int.toNat (k : Int)) s'.size).size < s'.size
        rw [ex]
        refine ⟨⟨A7, n + 1, c7, acc ++ [x], _, rfl, hx5.grown hg7.grown ho5.row, ho7, by rw [mkB_size, List.length_drop]; omega, ?_⟩, by rw [mkB_size, List.length_drop]; omega⟩
        rw [hu, hstep, if_pos hxk, B_mkB]
        cases unkeyR ((B s').drop k) <;> simp
end Go.Proofs.YtlpniinmomhkcaaDoor.V
