/- Contracts of the document's answer (16): digits, Text, hex, candidate, Read. -/
import Derived.Test.YtlpniinmomhkcaaDoorKR16
set_option linter.unusedVariables false
set_option linter.unusedSimpArgs false
namespace Go.Proofs.YtlpniinmomhkcaaDoor.V
open Go Go.Proofs Go.RowKit

theorem dec_digit {u : Nat} (h : u < 10) : Lib.decDigits u = [UInt8.ofNat (48 + u)] := by rw [Lib.decDigits, dif_pos h]
theorem dec_step {u : Nat} (h : ¬ u < 10) : Lib.decDigits u = Lib.decDigits (u / 10) ++ Lib.decDigits (u % 10) := by
  rw [dec_digit (show u % 10 < 10 by omega)]
  conv => lhs; rw [Lib.decDigits]
  rw [dif_neg h]
theorem dig10 : ∀ x : Fin 10, (([48, 49, 50, 51, 52, 53, 54, 55, 56, 57] : List UInt8).drop x.val).take 1 = [UInt8.ofNat (48 + x.val)] := by decide
theorem dig_nat (w : World) (u : Nat) : u < 9223372036854775808 → Calls Tryd.prog 47 #[.int .i64 (u : Int)] w (Ret fun v w' => v = .string (mkB (Lib.decDigits u)) ∧ w' = w) := by
  induction u using Nat.strongRecOn with
  | ind u ih =>
    intro hu
    apply calls47
    unfold S47
    refine splitW_f (decide_eq_false (by omega)) ?_
    by_cases h : u < 10
    · refine splitW_t (decide_eq_true (by omega)) ?_
      rw [wrap_i64 (by omega) (by omega)]
      refine ⟨⟨by omega, by omega, by show (u : Int) + 1 ≤ ((10 : Nat) : Int); omega⟩, ?_⟩
      refine ⟨?_, rfl⟩
      congr 1
      apply B_inj
      rw [B_extract, B_mkB, dec_digit h, ← dig10 ⟨u, h⟩, Int.toNat_natCast, show ((u : Int) + 1).toNat - u = 1 by omega]
      rfl
    · refine splitW_f (decide_eq_false (by omega)) ?_
      have e1 : Int.tdiv (u : Int) (10 : Int) = ((u / 10 : Nat) : Int) := rfl
      have e2 : Int.tmod (u : Int) (10 : Int) = ((u % 10 : Nat) : Int) := rfl
      rw [e1, e2, wrap_i64 (by omega) (by omega)]
      refine callW_of (ih (u / 10) (by omega) (by omega)) ?_
      rintro _ w1 ⟨rfl, hw⟩
      subst hw
      refine ⟨_, rfl, ?_⟩
      refine callW_of (ih (u % 10) (by omega) (by omega)) ?_
      rintro _ w1 ⟨rfl, hw⟩
      subst hw
      have l1 := dec_len (u / 10) 19 (by omega) (by omega)
      have l2 := dec_len (u % 10) 19 (by omega) (by omega)
      refine ⟨_, rfl, ⟨?_, ?_, rfl⟩⟩
      · rw [mkB_size, mkB_size]
        simp only [IntKind.max]
        show ((_ : Nat) : Int) ≤ 9223372036854775807
        omega
      · congr 1
        apply B_inj
        rw [B_append, B_mkB, B_mkB, B_mkB, dec_step h]
theorem digits_calls (w : World) {z : Int} (h0 : -9223372036854775808 ≤ z) (h1 : z < 9223372036854775808) : Calls Tryd.prog 47 #[.int .i64 z] w (Ret fun v w' => v = .string (mkB (Lib.itoa z)) ∧ w' = w) := by
  by_cases hz : z < 0
  · apply calls47
    unfold S47
    refine splitW_t (decide_eq_true hz) ?_
    by_cases hm : z = -9223372036854775808
    · subst hm
      refine splitW_t (by decide +kernel) ⟨?_, rfl⟩
      exact congrArg Value.string (B_inj (by rw [B_mkB]; decide +kernel))
    · rw [wrap_i64 (by omega) (by omega)]
      refine splitW_f (beq_eq_false_iff_ne.2 (by omega)) ?_
      have e : (0 : Int) - z = (z.natAbs : Int) := by omega
      rw [e]
      refine callW_of (dig_nat w z.natAbs (by omega)) ?_
      rintro _ w1 ⟨rfl, hw⟩
      subst hw
      have l1 := dec_len z.natAbs 19 (by omega) (by omega)
      refine ⟨_, rfl, ⟨?_, ?_, rfl⟩⟩
      · rw [mkB_size]
        simp only [IntKind.max]
        show (((1 : Nat) + _ : Nat) : Int) ≤ 9223372036854775807
        omega
      · congr 1
        apply B_inj
        rw [B_append, B_mkB, B_mkB]
        unfold Lib.itoa
        rw [if_pos hz]
        rfl
  · have := dig_nat w z.toNat (by omega)
    rw [show ((z.toNat : Nat) : Int) = z by omega] at this
    unfold Lib.itoa
    rw [if_neg hz]
    exact this
theorem rtext_calls (w : World) {c : Cell} (q : cellQ c) : Calls Tryd.prog 29 #[.agg #[.int .i64 c.1, .int .i64 c.2.1, .string c.2.2]] w (Ret fun v w' => v = .string (mkB (txt c)) ∧ Ext w w') := by
  apply calls29
  unfold S29
  refine new_i fun r1 w1 hb he hr1 hs1 => ?_
  have hb : Blk w1 r1 (cellE.f c) 23 := hb
  refine boxA (ls := [.int .i64, .int .i64, .str]) (cT c) hb rfl ?_
  refine callW_of (rvcheck_calls w1 c) ?_
  rintro _ w2 ⟨rfl, he2⟩
  have hx2 := he.trans he2
  have hb2 := hb.ext he2
  unfold txt cellE'
  by_cases hc : cellOK c = true
  · rw [if_pos hc, if_pos hc]
    refine ⟨0, rfl, splitW_f (by rfl) ?_⟩
    refine box0 (l := .int .i64) c.1 hb2 (by rfl) ?_
    rcases cellOK_kind hc with k | k | k | k
    · rw [k]
      exact splitW_t (by rfl) ⟨rfl, hx2⟩
    · rw [k]
      refine splitW_f (by rfl) (splitW_t (by rfl) ?_)
      refine boxF (l := .int .i64) 1 c.2.1 hb2 (by rfl) ?_
      refine callW_of (digits_calls w2 q.2.1.1 q.2.1.2) ?_
      rintro _ w3 ⟨rfl, hw⟩
      subst hw
      exact ⟨_, rfl, rfl, hx2⟩
    · rw [k]
      refine splitW_f (by rfl) (splitW_f (by rfl) (splitW_t (by rfl) ?_))
      refine boxF (l := .int .i64) 1 c.2.1 hb2 (by rfl) ?_
      refine splitW_i (fun h1 => ?_) (fun h1 => ?_)
      · have h1 := beq_iff_eq.1 h1
        refine ⟨?_, hx2⟩
        simp [h1, mkB]
      · have h1 := beq_eq_false_iff_ne.1 h1
        refine ⟨?_, hx2⟩
        simp [h1, mkB]
    · rw [k]
      refine splitW_f (by rfl) (splitW_f (by rfl) (splitW_f (by rfl) ?_))
      have h3 := (ok3 hc k).2
      have hsz := B_size c.2.2
      have hq : (if (3 : Int) = 0 then ([110, 117, 108, 108] : List UInt8) else if (3 : Int) = 1 then Lib.itoa c.2.1 else if (3 : Int) = 2 then (if c.2.1 = 1 then [116, 114, 117, 101] else [102, 97, 108, 115, 101]) else quo (B c.2.2)) = quo (B c.2.2) := rfl
      rw [hq]
      refine new_i fun r8 w3 hb8 he8 hr8 hs8 => ?_
      have hx3 := hx2.trans he8
      have ho3 : Own 5 w3 r8 (some ⟨r8, 0, none⟩) 1 1 (bV [34]) := own_of_blk (vs := bV [34]) hb8 rfl (by omega) (by omega)
      have hrr : r1 < r8 := by have := Blk.lt hb2; omega
      have hwr : w.heap.size ≤ r8 := by omega
      have keep : ∀ {w3 w4 : World} {A3 A4 : Option Addr} {m d : Nat} {vs : List Value}, Own 5 w3 r8 A3 m d vs → Grew w3 w4 (orow A3) (orow A4) → Ext w w3 → Blk w3 r1 (cellE.f c) 23 → Ext w w4 ∧ Blk w4 r1 (cellE.f c) 23 := by
        intro w3 w4 A3 A4 m d vs ho hg he hb
        exact ⟨he.grown hg.grown (fun j hj => by have := Own.row' ho j hj; omega), Blk.grown hb hg.grown (by intro e; have := Own.row' ho _ e.symm; omega)⟩
      refine loopW_i (fun y w' => ∃ (A' : Option Addr) (c' m i : Nat), i ≤ c.2.2.size ∧ y = ((A', m, c'), (i : Int), ()) ∧ m ≤ 1 + 4 * i ∧ 1 ≤ m ∧ Own 5 w' r8 A' m c' (bV (34 :: ((B c.2.2).take i).flatMap qc)) ∧ Ext w w' ∧ Blk w' r1 (cellE.f c) 23) (fun y => (c.2.2.size - y.2.1).toNat)
        ⟨_, 1, 1, 0, by omega, rfl, by omega, by omega, by simpa using ho3, hx3, hb2.ext he8⟩ ?_
      rintro _ w4 ⟨A3, c3, m, i, hi, rfl, hm, hm1, ho, he4, hb4⟩
      dsimp only
      have hB3 : r8 ≤ w4.heap.size := by obtain ⟨b, e, hb'⟩ := Own.addr ho (by omega); subst e; have := Own.lt ho b rfl; omega
      refine boxF (l := .str) 2 c.2.2 hb4 (by rfl) ?_
      by_cases hlts : i < c.2.2.size
      · refine splitW_t (decide_eq_true (by omega)) ?_
        have hbt : bt c.2.2 (i : Int) = (((B c.2.2).getD i 0).toNat : Int) := by rw [bt_eq (by omega) (by omega), Int.toNat_natCast]
        have hget : (B c.2.2)[i]? = some ((B c.2.2).getD i 0) := by rw [List.getD_eq_getElem?_getD, List.getElem?_eq_getElem (by omega)]; rfl
        have htake := take_snoc hget
        generalize (B c.2.2).getD i 0 = b at htake hbt
        have hbl := b.toNat_lt
        have hflat : 34 :: ((B c.2.2).take (i + 1)).flatMap qc = (34 :: ((B c.2.2).take i).flatMap qc) ++ qc b := by rw [htake]; simp
        refine joinW_s (fun (y : (Option Addr × Nat × Nat) × Unit) w' => ∃ (A' : Option Addr) (c' m' : Nat), y = ((A', m', c'), ()) ∧ m' ≤ m + 4 ∧ 1 ≤ m' ∧ Own 5 w' r8 A' m' c' (bV (34 :: ((B c.2.2).take (i + 1)).flatMap qc)) ∧ Ext w w' ∧ Blk w' r1 (cellE.f c) 23) ?_ (fun J hJ => ?_)
        · rintro _ w5 ⟨A5, c5, m5, rfl, hm5, hm51, ho5, he5, hb5⟩
          dsimp only
          rw [wrap_i64 (by omega) (by omega)]
          exact ⟨⟨A5, c5, m5, i + 1, by omega, rfl, by omega, hm51, ho5, he5, hb5⟩, by omega⟩
        refine boxF (l := .str) 2 c.2.2 hb4 (by rfl) ?_
        refine ⟨⟨by omega, by omega⟩, ?_⟩
        rw [hbt]
        refine joinW_s (fun (y : Bool × Unit) w' => y.1 = prn b ∧ w' = w4) ?_ (fun J2 hJ2 => ?_)
        · rintro ⟨p, _⟩ w5 ⟨hp, hw⟩
          subst hw
          dsimp only at hp ⊢
          subst hp
          refine splitW_i (fun hp => ?_) (fun hp => ?_)
          · have hqc : qc b = [b] := by unfold qc; rw [hp]; rfl
            refine app_bytes [b] ho hB3 (bV1 _) rfl (by omega) ?_
            intro A5 c5 w6 ho5 hg5
            obtain ⟨k1, k2⟩ := keep ho hg5 he4 hb4
            exact hJ _ _ ⟨A5, c5, m + 1, rfl, by omega, by omega, by rw [hflat, hqc]; exact ho5, k1, k2⟩
          · have hqc : qc b = [92, 120, hexL.getD (b.toNat / 16) 0, hexL.getD (b.toNat % 16) 0] := by unfold qc; rw [hp]; rfl
            have e4 := shr4 ⟨b.toNat, hbl⟩
            have e15 := and15 ⟨b.toNat, hbl⟩
            dsimp only at e4 e15
            have ho4 : Own 5 w5.drew r8 A3 m c3 (bV (34 :: ((B c.2.2).take i).flatMap qc)) := ho.ext (Ext.refl w5).drew
            show guardW _ _ w5.drew
            rw [e4, e15]
            refine ⟨⟨by omega, by show ((b.toNat / 16 : Nat) : Int) < ((16 : Nat) : Int); omega⟩, ⟨by omega, by show ((b.toNat % 16 : Nat) : Int) < ((16 : Nat) : Int); omega⟩, ?_⟩
            have h1 := hex_bt (n := b.toNat / 16) (by omega)
            have h2 := hex_bt (n := b.toNat % 16) (by omega)
            unfold hexB at h1 h2
            rw [h1, h2]
            refine app_bytes [92, 120, hexL.getD (b.toNat / 16) 0, hexL.getD (b.toNat % 16) 0] ho4 hB3 (by rfl) rfl (by omega) ?_
            intro A5 c5 w6 ho5 hg5
            obtain ⟨k1, k2⟩ := keep ho4 hg5 he4.drew (hb4.ext (Ext.refl w5).drew)
            exact hJ _ _ ⟨A5, c5, m + 4, rfl, by omega, by omega, by rw [hflat, hqc]; exact ho5, k1, k2⟩
        · unfold prn at hJ2
          refine splitW_i (fun h1 => ?_) (fun h1 => ?_)
          · have h1 := of_decide_eq_true h1
            refine splitW_i (fun h2 => ?_) (fun h2 => ?_)
            · have h2 := of_decide_eq_true h2
              refine splitW_i (fun h3 => ?_) (fun h3 => ?_)
              · have h3 := bne_iff_ne.1 h3
                refine hJ2 _ _ ⟨?_, rfl⟩
                rw [decide_eq_true (by omega), decide_eq_true (by omega)]
                simp only [Bool.true_and]
                rw [show (b.toNat != 34) = true from bne_iff_ne.2 (by omega), Bool.true_and]
                by_cases h4 : b.toNat = 92
                · rw [h4]; rfl
                · rw [show (b.toNat != 92) = true from bne_iff_ne.2 h4]
                  exact bne_iff_ne.2 (by omega)
              · have h3 := bne_eq_false_iff_eq.1 h3
                refine hJ2 _ _ ⟨?_, rfl⟩
                rw [show b.toNat = 34 by omega]
                rfl
            · have h2 := of_decide_eq_false h2
              refine hJ2 _ _ ⟨?_, rfl⟩
              rw [show decide (b.toNat ≤ 126) = false from decide_eq_false (by omega)]
              simp
          · have h1 := of_decide_eq_false h1
            refine hJ2 _ _ ⟨?_, rfl⟩
            rw [show decide (32 ≤ b.toNat) = false from decide_eq_false (by omega)]
            simp
      · obtain rfl : i = c.2.2.size := by omega
        refine splitW_f (decide_eq_false (by omega)) ?_
        refine app_bytes [34] ho hB3 (by rfl) rfl (by omega) ?_
        intro A5 c5 w5 ho5 hg5
        obtain ⟨k1, k2⟩ := keep ho hg5 he4 hb4
        refine conv_str (e := 5) (by kernel_rfl) (by kernel_rfl) (by kernel_rfl) ho5.sl ?_
        refine ⟨?_, k1⟩
        rw [hsz, List.take_length]
        rfl
  · rw [if_neg hc, if_neg hc]
    exact ⟨160, rfl, splitW_t (by rfl) ⟨rfl, hx2⟩⟩
theorem hex_all : ∀ x : Fin 256, (if 48 ≤ x.val ∧ x.val ≤ 57 then (x.val : Int) - 48 else if 97 ≤ x.val ∧ x.val ≤ 102 then (x.val : Int) - 87 else -1) = hxi (UInt8.ofNat x.val) := by decide +kernel
theorem hex_eq (b : UInt8) : hxi b = if 48 ≤ b.toNat ∧ b.toNat ≤ 57 then (b.toNat : Int) - 48 else if 97 ≤ b.toNat ∧ b.toNat ≤ 102 then (b.toNat : Int) - 87 else -1 := by
  have h := hex_all ⟨b.toNat, b.toNat_lt⟩
  dsimp only at h
  rw [show UInt8.ofNat b.toNat = b from UInt8.toNat_inj.1 (by rw [UInt8.toNat_ofNat']; exact Nat.mod_eq_of_lt b.toNat_lt)] at h
  exact h.symm
theorem hex_calls (w : World) (b : UInt8) : Calls Tryd.prog 59 #[.int .u8 (b.toNat : Int)] w (Ret fun v w' => v = .int .i64 (hxi b) ∧ w' = w) := by
  apply calls59
  unfold S59
  have hbl := b.toNat_lt
  rw [hex_eq]
  refine joinW_s (fun (y : Bool × Unit) w' => y.1 = decide (48 ≤ b.toNat ∧ b.toNat ≤ 57) ∧ w' = w) ?_ (fun J hJ => ?_)
  · rintro ⟨p, _⟩ w1 ⟨hp, hw⟩
    subst hw
    dsimp only at hp ⊢
    subst hp
    refine splitW_i (fun h => ?_) (fun h => ?_)
    · have h := of_decide_eq_true h
      rw [if_pos h, wrap_u8, wrap_i64 (by omega) (by omega)]
      exact ⟨by congr 1; omega, rfl⟩
    · have h := of_decide_eq_false h
      rw [if_neg h]
      refine splitW_i (fun h1 => splitW_i (fun h2 => ?_) (fun h2 => ?_)) (fun h1 => ?_)
      · have h1 := of_decide_eq_true h1
        have h2 := of_decide_eq_true h2
        rw [if_pos ⟨by omega, by omega⟩, wrap_u8, wrap_i64 (x := ((b.toNat : Int) - 97) % 256) (by omega) (by omega), wrap_i64 (by omega) (by omega)]
        exact ⟨by congr 1; omega, rfl⟩
      · have h2 := of_decide_eq_false h2
        rw [if_neg (by omega)]
        exact ⟨rfl, rfl⟩
      · have h1 := of_decide_eq_false h1
        rw [if_neg (by omega)]
        exact ⟨rfl, rfl⟩
  · refine splitW_i (fun h => ?_) (fun h => ?_)
    · have h := of_decide_eq_true h
      refine hJ _ _ ⟨?_, rfl⟩
      apply Bool.eq_iff_iff.2
      simp only [decide_eq_true_eq]
      omega
    · have h := of_decide_eq_false h
      exact hJ _ _ ⟨(decide_eq_false (by omega)).symm, rfl⟩
end Go.Proofs.YtlpniinmomhkcaaDoor.V
