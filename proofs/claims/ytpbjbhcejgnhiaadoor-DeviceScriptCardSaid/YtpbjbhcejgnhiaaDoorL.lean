/- Laws of chapter 03: small parts. -/
import Derived.Test.YtpbjbhcejgnhiaaDoorKDev7
set_option linter.unusedVariables false
set_option linter.unusedSimpArgs false
namespace Go.Proofs.YtpbjbhcejgnhiaaDoor.V
open Go Go.Proofs Go.RowKit Crc

theorem DevNew.step {w0 w w' : World} {d' : Dev} {b : Nat} {F : Nat → Prop} (hlo : ∀ k, F k → w0.heap.size ≤ k) (hx : Ext w0 w) (h : Step w b F d' w') : DevNew w0 d' b w' := by
  obtain ⟨F', h1, h2, h3⟩ := h
  exact ⟨F', h1, fun k hk => by rcases h2 k hk with x | x; exact hlo k x; have := hx.size; omega, Ext.only' hx h3 hlo⟩
theorem DevNew.ext {w0 w w' : World} {d : Dev} {b : Nat} (h : DevNew w0 d b w) (k : Ext w w') : DevNew w0 d b w' := by
  obtain ⟨F, h1, h2, h3⟩ := h
  exact ⟨F, h1.ext k, h2, h3.trans k⟩
/-- Two devices, apart, of one's own. -/
def Two (w0 : World) (b : Nat) (d : Dev) (c : Nat) (e : Dev) (w : World) : Prop := ∃ F G : Nat → Prop, DevAt w b d F ∧ DevAt w c e G ∧ (∀ k, F k → ¬ G k) ∧ (∀ k, F k → w0.heap.size ≤ k) ∧ (∀ k, G k → w0.heap.size ≤ k) ∧ Ext w0 w
theorem Two.swap {w0 w : World} {b c : Nat} {d e : Dev} (h : Two w0 b d c e w) : Two w0 c e b d w := by
  obtain ⟨F, G, h1, h2, h3, h4, h5, h6⟩ := h
  exact ⟨G, F, h2, h1, fun k hk hf => h3 k hf hk, h5, h4, h6⟩
theorem Two.ext {w0 w w' : World} {b c : Nat} {d e : Dev} (h : Two w0 b d c e w) (k : Ext w w') : Two w0 b d c e w' := by
  obtain ⟨F, G, h1, h2, h3, h4, h5, h6⟩ := h
  exact ⟨F, G, h1.ext k, h2.ext k, h3, h4, h5, h6.trans k⟩
theorem Two.of {w0 w w' : World} {b c : Nat} {d e : Dev} (h : DevNew w0 d b w) (k : DevNew w e c w') : Two w0 b d c e w' := by
  obtain ⟨F, h1, h2, h3⟩ := h
  obtain ⟨G, k1, k2, k3⟩ := k
  exact ⟨F, G, h1.ext k3, k1, fun j hf hg => by have := h1.lt j hf; have := k2 j hg; omega, h2, fun j hj => by have := k2 j hj; have := h3.size; omega, h3.trans k3⟩
theorem Two.left {w0 w : World} {b c : Nat} {d e : Dev} (h : Two w0 b d c e w) : DevNew w0 d b w := by
  obtain ⟨F, G, h1, h2, h3, h4, h5, h6⟩ := h
  exact ⟨F, h1, h4, h6⟩
/-- What a call does to the one leaves the other. -/
theorem Two.step {w0 w w' : World} {b c : Nat} {d' e : Dev} {F G : Nat → Prop} (h2 : DevAt w c e G) (h3 : ∀ k, F k → ¬ G k) (h4 : ∀ k, F k → w0.heap.size ≤ k) (h5 : ∀ k, G k → w0.heap.size ≤ k) (h6 : Ext w0 w) (h : Step w b F d' w') : Two w0 b d' c e w' := by
  obtain ⟨F', s1, s2, s3⟩ := h
  refine ⟨F', G, s1, h2.apart s3 (fun j hj hf => h3 j hf hj), fun k hk hg => ?_, fun k hk => ?_, h5, Ext.only' h6 s3 h4⟩
  · rcases s2 k hk with x | x
    · exact h3 k x hg
    · have := h2.lt k hg; omega
  · rcases s2 k hk with x | x
    · exact h4 k x
    · have := h6.size; omega
theorem full_calls (w : World) (s : ByteArray) {n : Int} (hn1 : n < 9223372036854775808) (hb : (B s).length * n.toNat ≤ 4000000000000000000) (hs : (B s).length ≤ 4000000000000000000) :
    Calls Tryd.prog 18 #[.int .i64 n, .string s] w (Ret fun v w' => v = .string (mkB (timesL (B s) n.toNat)) ∧ w' = w) := by
  apply calls18
  unfold S18
  refine callW_of (times_calls w s hn1 hb hs) ?_
  rintro _ w1 ⟨rfl, hw⟩
  exact ⟨_, rfl, rfl, hw⟩
theorem small_calls (w : World) : Calls Tryd.prog 23 #[] w (Ret fun v w' => v = .agg #[.int .i64 128, .int .i64 8] ∧ Ext w w') := by
  apply calls23
  unfold S23
  refine new_i fun r1 w1 hb1 he1 hr1 hz1 => ?_
  refine refill (vs := [.int .i64 128, .int .i64 8]) hb1 (by rfl) (by intro v hv; simp at hv; rcases hv with rfl | rfl <;> rfl) (by rfl) ?_
  intro w2 hb2 hx2 hk2 hs2
  exact boxA (ls := [.int .i64, .int .i64]) (128, 8, ()) hb2 rfl ⟨rfl, hx2 w he1 (by omega)⟩
theorem wsz {d : Dev} (k : Int) (s : ByteArray) : (d.write k s).1.pen.length ≤ d.pen.length + 1 := by
  unfold Dev.write
  split
  · exact Nat.le_succ _
  · split
    · exact Nat.le_succ _
    · show (d.pen ++ [(k, s)]).length ≤ _
      simp
theorem dnew_ok (w : World) {size blocks : Int} (hg : geoOK size blocks = true) : Calls Tryd.prog 10 #[.agg #[.int .i64 size, .int .i64 blocks]] w (Ret fun v w' => ∃ b, v = .tuple #[.pointer (some ⟨b, 0, none⟩), .int .i64 0] ∧ DevNew w (dev0 size blocks) b w') :=
  (dnew_calls w size blocks).mono (Ret.mono (by
    rintro v w' (⟨_, h⟩ | ⟨h, _⟩)
    · exact h
    · rw [hg] at h; cases h))
theorem dnew_no (w : World) {size blocks : Int} (hg : geoOK size blocks = false) : Calls Tryd.prog 10 #[.agg #[.int .i64 size, .int .i64 blocks]] w (Ret fun v w' => v = .tuple #[.pointer none, .int .i64 2] ∧ Ext w w') :=
  (dnew_calls w size blocks).mono (Ret.mono (by
    rintro v w' (⟨h, _⟩ | ⟨_, h⟩)
    · rw [hg] at h; cases h
    · exact h))
theorem crash_ok {w : World} {b : Nat} {d : Dev} {F : Nat → Prop} (h : DevAt w b d F) {A : Option Addr} {n c : Nat} {l : List (Int × Nat)} (hk : d.pickOK l) (hl : Sli pickE w A n l) (hlm : ∀ p ∈ l, p.2 < 18446744073709551616) (hn : n ≤ 1000000) (hpen : d.pen.length ≤ 1000000) (hT : DeB w) :
    Calls Tryd.prog 17 #[.pointer (some ⟨b, 0, none⟩), .slice A n c] w (Ret fun v w' => ∃ b', v = .tuple #[.pointer (some ⟨b', 0, none⟩), .int .i64 0] ∧ DevNew w (d.crashed l) b' w') :=
  (crash_calls h hl hlm hn hpen hT).mono (Ret.mono (by
    rintro v w' (⟨_, h⟩ | ⟨h, _⟩)
    · exact h
    · exact absurd hk h))
theorem crash_no {w : World} {b : Nat} {d : Dev} {F : Nat → Prop} (h : DevAt w b d F) {A : Option Addr} {n c : Nat} {l : List (Int × Nat)} (hk : ¬ d.pickOK l) (hl : Sli pickE w A n l) (hlm : ∀ p ∈ l, p.2 < 18446744073709551616) (hn : n ≤ 1000000) (hpen : d.pen.length ≤ 1000000) (hT : DeB w) :
    Calls Tryd.prog 17 #[.pointer (some ⟨b, 0, none⟩), .slice A n c] w (Ret fun v w' => v = .tuple #[.pointer none, .int .i64 2] ∧ Ext w w') :=
  (crash_calls h hl hlm hn hpen hT).mono (Ret.mono (by
    rintro v w' (⟨h, _⟩ | ⟨_, h⟩)
    · exact absurd h hk
    · exact h))
theorem le_k {a b : Nat} (h : Nat.ble a b = true) : a ≤ b := Nat.le_of_ble_eq_true h
def rep (n : Nat) (b : UInt8) : ByteArray := mkB (timesL [b] n)
def lv0 : Dev := dev0 128 8
def lv1 : Dev := (lv0.write 3 (rep 128 97)).1
theorem lv_1 : (lv0.write 3 (rep 128 97)).2 = 0 := by kernel_rfl
theorem lv_2 : lv1.read 3 = (rep 128 97, 0) := by kernel_rfl
theorem lv_3 : (lv1.crashed []).read 3 = (rep 128 0, 0) := by kernel_rfl
theorem nil_picks (w : World) : Sli pickE w none 0 [] := ⟨rfl, by omega, fun h => absurd h (by omega)⟩
theorem pickOK_nil (d : Dev) : d.pickOK [] := ⟨(fun p hp => by cases hp), List.nodup_nil⟩
theorem lives_calls {w : World} (hT : DeB w) : Calls Tryd.prog 9 #[] w (Ret fun v w' => v = .bool true ∧ Ext w w') := by
  apply calls9
  unfold S9
  refine callW_of (small_calls w) ?_
  rintro _ w1 ⟨rfl, he1⟩
  refine ⟨(128, 8, ()), rfl, ?_⟩
  refine callW_of (dnew_ok w1 (size := 128) (blocks := 8) (by kernel_rfl)) ?_
  rintro _ w2 ⟨b, rfl, hN⟩
  refine ⟨(some ⟨b, 0, none⟩, 0, ()), rfl, ?_⟩
  refine splitW_f (by rfl) (splitW_f (by rfl) ?_)
  refine callW_of (full_calls w2 ⟨#[97]⟩ (n := 128) (by omega) (by decide) (by decide)) ?_
  rintro _ w3 ⟨rfl, hw⟩
  refine ⟨_, rfl, ?_⟩
  obtain rfl : w2 = w3 := hw.symm
  obtain ⟨F, hD, hlo, hx⟩ := hN
  refine callW_of (write_calls hD 3 (rep 128 97) (Nat.zero_le _)) ?_
  rintro _ w3 ⟨rfl, hs⟩
  refine ⟨_, rfl, ?_⟩
  obtain ⟨F, hD, hlo, hx⟩ := DevNew.step hlo hx hs
  refine callW_of (read_calls (d := lv1) hD 3) ?_
  rw [lv_2]
  rintro _ w4 ⟨rfl, he4⟩
  refine ⟨(rep 128 97, 0, ()), rfl, ?_⟩
  have hx4 := (he1.trans hx).trans he4
  refine callW_of (crash_ok (d := lv1) (hD.ext he4) (pickOK_nil _) (nil_picks w4) (fun p hp => by cases hp) (by omega) (le_k (by kernel_rfl)) (hT.ext hx4)) ?_
  rintro _ w5 ⟨c, rfl, hN⟩
  refine ⟨(some ⟨c, 0, none⟩, 0, ()), rfl, ?_⟩
  obtain ⟨G, hG, glo, gx⟩ := hN
  refine callW_of (read_calls (d := lv1.crashed []) hG 3) ?_
  rw [lv_3]
  rintro _ w6 ⟨rfl, he6⟩
  refine ⟨(rep 128 0, 0, ()), rfl, ?_⟩
  have hx6 := (hx4.trans gx).trans he6
  refine splitW_t (by kernel_rfl) (splitW_t (by rfl) ?_)
  refine callW_of (full_calls w6 ⟨#[97]⟩ (n := 128) (by omega) (by decide) (by decide)) ?_
  rintro _ w7 ⟨rfl, hw⟩
  refine ⟨_, rfl, ?_⟩
  obtain rfl : w6 = w7 := hw.symm
  refine splitW_t (by rw [str_beq]; exact decide_eq_true rfl) (splitW_t (by rfl) (splitW_t (by rfl) ?_))
  refine callW_of (full_calls w6 ⟨#[0]⟩ (n := 128) (by omega) (by decide) (by decide)) ?_
  rintro _ w7 ⟨rfl, hw⟩
  refine ⟨_, rfl, ?_⟩
  obtain rfl : w6 = w7 := hw.symm
  exact ⟨by rw [str_beq]; exact congrArg Value.bool (decide_eq_true rfl), hx6⟩
end Go.Proofs.YtpbjbhcejgnhiaaDoor.V
