/- Law DeviceNames. -/
import Derived.Test.YtpbjbhcejgnhiaaDoorL
set_option linter.unusedVariables false
set_option linter.unusedSimpArgs false
namespace Go.Proofs.YtpbjbhcejgnhiaaDoor.V
open Go Go.Proofs Go.RowKit Crc

theorem opsNil (w : World) : Calls Tryd.prog 22 #[.pointer none] w (Ret fun v w' => v = .int .i64 0 ∧ w' = w) := by
  apply calls22
  unfold S22
  exact splitW_t (by rfl) ⟨rfl, rfl⟩
theorem flushNil (w : World) : Calls Tryd.prog 15 #[.pointer none] w (Ret fun v w' => v = .int .i64 1 ∧ w' = w) := by
  apply calls15
  unfold S15
  exact splitW_t (by rfl) ⟨rfl, rfl⟩
instance (d : Dev) (p : Int × Nat) : Decidable (d.pick1 p) := by unfold Dev.pick1; infer_instance
instance (d : Dev) (l : List (Int × Nat)) : Decidable (d.pickOK l) := by unfold Dev.pickOK; infer_instance
def na : ByteArray := rep 128 97
def nb : ByteArray := rep 128 98
def n1 : Dev := (lv0.write 1 na).1
def n2 : Dev := (n1.write 1 nb).1
def nc : Dev := n2.crashed [(1, 2), (0, 1)]
def n3 : Dev := n2.flush.1
def n4 : Dev := (n3.rot 1 7 3#32).1
def n5 : Dev := { n4 with fuse := max (-1) 1 }
def n6 : Dev := (n5.write 2 (rep 128 99)).1
def n7 : Dev := { n6 with fuse := max (-1) (-5) }
def n8 : Dev := n7.flush.1
theorem nn_g : lv0.write 8 na = (lv0, 2) := by kernel_rfl
theorem nn_h : lv0.write 0 ⟨#[97]⟩ = (lv0, 2) := by kernel_rfl
theorem nn_i : n2.pickOK [(1, 2), (0, 1)] := of_decide_eq_true (by kernel_rfl)
theorem nn_j : ¬ n2.pickOK [(1, 0), (1, 0)] := of_decide_eq_false (by kernel_rfl)
theorem nn_k : ¬ n2.pickOK [(0, 4)] := of_decide_eq_false (by kernel_rfl)
theorem nn_x : nc.read 1 = (mkB (timesL [97] 64 ++ timesL [98] 64), 0) := by kernel_rfl
theorem nn_l : n2.flush = (n3, 0) := by kernel_rfl
theorem nn_y : n3.read 1 = (nb, 0) := by kernel_rfl
theorem nn_m : n3.rot 1 7 3#32 = (n4, 0) := by kernel_rfl
theorem nn_z : n4.read 1 = (mkB ([226, 99] ++ timesL [98] 126), 0) := by kernel_rfl
theorem nn_n : n4.rot 1 1023 3#32 = (n4, 2) := by kernel_rfl
theorem nn_o : n4.rot 1 0 0#32 = (n4, 2) := by kernel_rfl
theorem nn_p : n5.write 2 (rep 128 99) = (n6, 0) := by kernel_rfl
theorem nn_q : n6.flush = (n6, 8) := by kernel_rfl
theorem nn_r : n6.write 9 ⟨#[]⟩ = (n6, 2) := by kernel_rfl
theorem nn_s : n7.flush = (n8, 0) := by kernel_rfl
theorem nn_t : n8.ops = 5 := by kernel_rfl
theorem nn_u : n8.pen = [] := by kernel_rfl
theorem nn_v : nc.ops = 0 := by kernel_rfl
theorem nn_e : n2.pen.length = 2 := by kernel_rfl
theorem nn_e5 : n5.pen.length = 0 := by kernel_rfl
theorem nn_e6 : n6.pen.length = 1 := by kernel_rfl
theorem names_calls {w : World} (hT : DeB w) : Calls Tryd.prog 6 #[] w (Ret fun v w' => v = .bool true ∧ Ext w w') := by
  apply calls6
  unfold S6
  refine callW_of (lives_calls hT) ?_
  rintro _ w1 ⟨rfl, hx⟩
  refine ⟨_, rfl, splitW_f (by rfl) ?_⟩
  refine callW_of (small_calls w1) ?_
  rintro _ w2 ⟨rfl, he⟩
  refine ⟨(128, 8, ()), rfl, ?_⟩
  replace hx := hx.trans he
  refine callW_of (dnew_ok w2 (size := 128) (blocks := 8) (by kernel_rfl)) ?_
  rintro _ w3 ⟨b, rfl, hN⟩
  refine ⟨(some ⟨b, 0, none⟩, 0, ()), rfl, ?_⟩
  replace hN : DevNew w lv0 b w3 := DevNew.pre hN hx
  clear hx he
  refine callW_of (dnew_no w3 (size := 130) (blocks := 8) (by kernel_rfl)) ?_
  rintro _ w4 ⟨rfl, he⟩
  refine ⟨(none, 2, ()), rfl, ?_⟩
  replace hN := hN.ext he
  refine callW_of (small_calls w4) ?_
  rintro _ w5 ⟨rfl, he⟩
  refine ⟨(128, 8, ()), rfl, ?_⟩
  replace hN := hN.ext he
  refine callW_of (dload_calls w5 128 8 ⟨#[97]⟩ (by decide)) ?_
  rintro _ w6 hL
  rcases hL with ⟨_, hL, _⟩ | ⟨_, rfl, he⟩
  · exact absurd hL (by decide)
  refine ⟨(none, 2, ()), rfl, ?_⟩
  replace hN := hN.ext he
  refine callW_of (full_calls w6 ⟨#[97]⟩ (n := 128) (by omega) (by decide) (by decide)) ?_
  rintro _ w7 ⟨rfl, hw⟩
  obtain rfl : w6 = w7 := hw.symm
  refine ⟨mkB (timesL [97] 128), rfl, ?_⟩
  obtain ⟨F, hD, hlo, hx⟩ := hN
  refine callW_of (write_calls (d := lv0) hD 8 na (le_k (by kernel_rfl))) ?_
  rw [nn_g]
  rintro _ w7 ⟨rfl, hs⟩
  dsimp only at hs
  refine ⟨_, rfl, ?_⟩
  have hN := DevNew.step hlo hx hs
  clear hD hlo hx hs F
  obtain ⟨F, hD, hlo, hx⟩ := hN
  refine callW_of (write_calls (d := lv0) hD 0 ⟨#[97]⟩ (le_k (by kernel_rfl))) ?_
  rw [nn_h]
  rintro _ w8 ⟨rfl, hs⟩
  dsimp only at hs
  refine ⟨_, rfl, ?_⟩
  have hN := DevNew.step hlo hx hs
  clear hD hlo hx hs F
  refine callW_of (full_calls w8 ⟨#[97]⟩ (n := 128) (by omega) (by decide) (by decide)) ?_
  rintro _ w9 ⟨rfl, hw⟩
  obtain rfl : w8 = w9 := hw.symm
  refine ⟨mkB (timesL [97] 128), rfl, ?_⟩
  obtain ⟨F, hD, hlo, hx⟩ := hN
  refine callW_of (write_calls (d := lv0) hD 1 na (le_k (by kernel_rfl))) ?_
  rintro _ w9 ⟨rfl, hs⟩
  refine ⟨_, rfl, ?_⟩
  have hN := DevNew.step hlo hx hs
  clear hD hlo hx hs F
  replace hN : DevNew w n1 b w9 := hN
  refine callW_of (full_calls w9 ⟨#[98]⟩ (n := 128) (by omega) (by decide) (by decide)) ?_
  rintro _ w10 ⟨rfl, hw⟩
  obtain rfl : w9 = w10 := hw.symm
  refine ⟨mkB (timesL [98] 128), rfl, ?_⟩
  obtain ⟨F, hD, hlo, hx⟩ := hN
  refine callW_of (write_calls (d := n1) hD 1 nb (le_k (by kernel_rfl))) ?_
  rintro _ w10 ⟨rfl, hs⟩
  refine ⟨_, rfl, ?_⟩
  have hN := DevNew.step hlo hx hs
  clear hD hlo hx hs F
  replace hN : DevNew w n2 b w10 := hN
  refine new_i fun r11 w11 hb he _ _ => ?_
  replace hN := hN.ext he
  have hp : Sli pickE w11 (some ⟨r11, 0, none⟩) 2 [(1, 2), (0, 1)] := Sli.of_blk (E := pickE) (xs := [(1, 2), (0, 1)]) hb rfl (by omega)
  obtain ⟨F, hD, hlo, hx⟩ := hN
  refine callW_of (crash_ok (d := n2) hD nn_i hp (by decide) (by omega) (le_k (by kernel_rfl)) (hT.ext hx)) ?_
  rintro _ w12 ⟨c, rfl, hN2⟩
  refine ⟨(some ⟨c, 0, none⟩, 0, ()), rfl, ?_⟩
  have hW : Two w b n2 c nc w12 := Two.of ⟨F, hD, hlo, hx⟩ hN2
  clear hN2 hD hlo hx F hb he hp
  refine new_i fun r13 w13 hb he _ _ => ?_
  replace hW := hW.ext he
  have hp : Sli pickE w13 (some ⟨r13, 0, none⟩) 2 [(1, 0), (1, 0)] := Sli.of_blk (E := pickE) (xs := [(1, 0), (1, 0)]) hb rfl (by omega)
  obtain ⟨F, hD, hlo, hx⟩ := hW.left
  refine callW_of (crash_no (d := n2) hD nn_j hp (by decide) (by omega) (le_k (by kernel_rfl)) (hT.ext hx)) ?_
  rintro _ w14 ⟨rfl, he⟩
  refine ⟨(none, 2, ()), rfl, ?_⟩
  replace hW := hW.ext he
  clear hD hlo hx F hb he hp
  refine new_i fun r15 w15 hb he _ _ => ?_
  replace hW := hW.ext he
  have hp : Sli pickE w15 (some ⟨r15, 0, none⟩) 1 [(0, 4)] := Sli.of_blk (E := pickE) (xs := [(0, 4)]) hb rfl (by omega)
  obtain ⟨F, hD, hlo, hx⟩ := hW.left
  refine callW_of (crash_no (d := n2) hD nn_k hp (by decide) (by omega) (le_k (by kernel_rfl)) (hT.ext hx)) ?_
  rintro _ w16 ⟨rfl, he⟩
  refine ⟨(none, 2, ()), rfl, ?_⟩
  replace hW := hW.ext he
  clear hD hlo hx F hb he hp
  obtain ⟨F, hD, hlo, hx⟩ := hW.swap.left
  refine callW_of (read_calls (d := nc) hD 1) ?_
  rw [nn_x]
  rintro _ w17 ⟨rfl, he⟩
  refine ⟨(mkB (timesL [97] 64 ++ timesL [98] 64), 0, ()), rfl, ?_⟩
  replace hW := hW.ext he
  clear hD hlo hx F he
  obtain ⟨F, G, hD, hC, hFG, hlF, hlG, hx⟩ := hW
  refine callW_of (flush_calls (d := n2) hD) ?_
  rw [nn_l]
  rintro _ w18 ⟨rfl, hs⟩
  dsimp only at hs
  refine ⟨_, rfl, ?_⟩
  have hW := Two.step hC hFG hlF hlG hx hs
  clear hD hC hFG hlF hlG hx hs F G
  obtain ⟨F, hD, hlo, hx⟩ := hW.left
  refine callW_of (read_calls (d := n3) hD 1) ?_
  rw [nn_y]
  rintro _ w19 ⟨rfl, he⟩
  refine ⟨(nb, 0, ()), rfl, ?_⟩
  replace hW := hW.ext he
  clear hD hlo hx F he
  obtain ⟨F, G, hD, hC, hFG, hlF, hlG, hx⟩ := hW
  refine callW_of (rot_calls (d := n3) hD 1 7 3#32 (by omega)) ?_
  rw [nn_m]
  rintro _ w20 ⟨rfl, hs⟩
  dsimp only at hs
  refine ⟨_, rfl, ?_⟩
  have hW := Two.step hC hFG hlF hlG hx hs
  clear hD hC hFG hlF hlG hx hs F G
  obtain ⟨F, hD, hlo, hx⟩ := hW.left
  refine callW_of (read_calls (d := n4) hD 1) ?_
  rw [nn_z]
  rintro _ w21 ⟨rfl, he⟩
  refine ⟨(mkB ([226, 99] ++ timesL [98] 126), 0, ()), rfl, ?_⟩
  replace hW := hW.ext he
  clear hD hlo hx F he
  obtain ⟨F, G, hD, hC, hFG, hlF, hlG, hx⟩ := hW
  refine callW_of (rot_calls (d := n4) hD 1 1023 3#32 (by omega)) ?_
  rw [nn_n]
  rintro _ w22 ⟨rfl, hs⟩
  dsimp only at hs
  refine ⟨_, rfl, ?_⟩
  have hW := Two.step hC hFG hlF hlG hx hs
  clear hD hC hFG hlF hlG hx hs F G
  obtain ⟨F, G, hD, hC, hFG, hlF, hlG, hx⟩ := hW
  refine callW_of (rot_calls (d := n4) hD 1 0 0#32 (by omega)) ?_
  rw [nn_o]
  rintro _ w23 ⟨rfl, hs⟩
  dsimp only at hs
  refine ⟨_, rfl, ?_⟩
  have hW := Two.step hC hFG hlF hlG hx hs
  clear hD hC hFG hlF hlG hx hs F G
  obtain ⟨F, G, hD, hC, hFG, hlF, hlG, hx⟩ := hW
  refine callW_of (fuse_calls (d := n4) hD (n := 1) (by omega)) ?_
  rintro _ w24 ⟨rfl, hs⟩
  refine ⟨(), rfl, ?_⟩
  have hW := Two.step hC hFG hlF hlG hx hs
  clear hD hC hFG hlF hlG hx hs F G
  replace hW : Two w b n5 c nc w24 := hW
  refine callW_of (full_calls w24 ⟨#[99]⟩ (n := 128) (by omega) (by decide) (by decide)) ?_
  rintro _ w25 ⟨rfl, hw⟩
  obtain rfl : w24 = w25 := hw.symm
  refine ⟨mkB (timesL [99] 128), rfl, ?_⟩
  obtain ⟨F, G, hD, hC, hFG, hlF, hlG, hx⟩ := hW
  refine callW_of (write_calls (d := n5) hD 2 (rep 128 99) (le_k (by kernel_rfl))) ?_
  rw [nn_p]
  rintro _ w25 ⟨rfl, hs⟩
  dsimp only at hs
  refine ⟨_, rfl, ?_⟩
  have hW := Two.step hC hFG hlF hlG hx hs
  clear hD hC hFG hlF hlG hx hs F G
  obtain ⟨F, G, hD, hC, hFG, hlF, hlG, hx⟩ := hW
  refine callW_of (flush_calls (d := n6) hD) ?_
  rw [nn_q]
  rintro _ w26 ⟨rfl, hs⟩
  dsimp only at hs
  refine ⟨_, rfl, ?_⟩
  have hW := Two.step hC hFG hlF hlG hx hs
  clear hD hC hFG hlF hlG hx hs F G
  obtain ⟨F, G, hD, hC, hFG, hlF, hlG, hx⟩ := hW
  refine callW_of (write_calls (d := n6) hD 9 ⟨#[]⟩ (le_k (by kernel_rfl))) ?_
  rw [nn_r]
  rintro _ w27 ⟨rfl, hs⟩
  dsimp only at hs
  refine ⟨_, rfl, ?_⟩
  have hW := Two.step hC hFG hlF hlG hx hs
  clear hD hC hFG hlF hlG hx hs F G
  obtain ⟨F, G, hD, hC, hFG, hlF, hlG, hx⟩ := hW
  refine callW_of (fuse_calls (d := n6) hD (n := -5) (by omega)) ?_
  rintro _ w28 ⟨rfl, hs⟩
  refine ⟨(), rfl, ?_⟩
  have hW := Two.step hC hFG hlF hlG hx hs
  clear hD hC hFG hlF hlG hx hs F G
  replace hW : Two w b n7 c nc w28 := hW
  obtain ⟨F, G, hD, hC, hFG, hlF, hlG, hx⟩ := hW
  refine callW_of (flush_calls (d := n7) hD) ?_
  rw [nn_s]
  rintro _ w29 ⟨rfl, hs⟩
  dsimp only at hs
  refine ⟨_, rfl, ?_⟩
  have hW := Two.step hC hFG hlF hlG hx hs
  clear hD hC hFG hlF hlG hx hs F G
  refine joinW_i fun J hJ => ?_
  refine splitW_t (by rfl) (splitW_t (by rfl) (splitW_t (by rfl) (splitW_t (by rfl) (splitW_t (by rfl) (splitW_t (by rfl) (splitW_t (by rfl) ?_))))))
  refine callW_of (full_calls w29 ⟨#[97]⟩ (n := 64) (by omega) (by decide) (by decide)) ?_
  rintro _ w30 ⟨rfl, hw⟩
  obtain rfl : w29 = w30 := hw.symm
  refine ⟨mkB (timesL [97] 64), rfl, ?_⟩
  refine callW_of (full_calls w29 ⟨#[98]⟩ (n := 64) (by omega) (by decide) (by decide)) ?_
  rintro _ w30 ⟨rfl, hw⟩
  obtain rfl : w29 = w30 := hw.symm
  refine ⟨mkB (timesL [98] 64), rfl, ?_⟩
  refine guard_i (of_decide_eq_true (by kernel_rfl)) (splitW_t (by rw [str_beq]; exact decide_eq_true rfl) (splitW_t (by rfl) ?_))
  refine callW_of (full_calls w29 ⟨#[98]⟩ (n := 128) (by omega) (by decide) (by decide)) ?_
  rintro _ w30 ⟨rfl, hw⟩
  obtain rfl : w29 = w30 := hw.symm
  refine ⟨mkB (timesL [98] 128), rfl, ?_⟩
  refine splitW_t (by rw [str_beq]; exact decide_eq_true rfl) (splitW_t (by rfl) ?_)
  refine callW_of (full_calls w29 ⟨#[98]⟩ (n := 126) (by omega) (by decide) (by decide)) ?_
  rintro _ w30 ⟨rfl, hw⟩
  obtain rfl : w29 = w30 := hw.symm
  refine ⟨mkB (timesL [98] 126), rfl, ?_⟩
  refine guard_i (of_decide_eq_true (by kernel_rfl)) (splitW_t (by rw [str_beq]; exact decide_eq_true rfl) (splitW_t (by rfl) (splitW_t (by rfl) (splitW_t (by rfl) (splitW_t (by rfl) (splitW_t (by rfl) (splitW_t (by rfl) ?_)))))))
  obtain ⟨F, hD, hlo, hx⟩ := hW.left
  refine callW_of (ops_calls (d := n8) hD) ?_
  rw [nn_t]
  rintro _ w30 ⟨rfl, hw⟩
  obtain rfl : w29 = w30 := hw.symm
  refine ⟨_, rfl, ?_⟩
  refine splitW_t (by rfl) ?_
  refine callW_of (flushNil w29) ?_
  rintro _ w30 ⟨rfl, hw⟩
  obtain rfl : w29 = w30 := hw.symm
  refine ⟨_, rfl, splitW_t (by rfl) ?_⟩
  refine callW_of (opsNil w29) ?_
  rintro _ w30 ⟨rfl, hw⟩
  obtain rfl : w29 = w30 := hw.symm
  refine ⟨_, rfl, splitW_t (by rfl) ?_⟩
  refine callW_of (pending_calls (d := n8) hD (le_k (by kernel_rfl))) ?_
  rw [nn_u]
  rintro _ w30 ⟨A, cc, rfl, ho, he⟩
  refine ⟨(A, 0, cc), rfl, splitW_t (by rfl) ?_⟩
  replace hW := hW.ext he
  clear hD hlo hx F
  obtain ⟨F, hD, hlo, hx⟩ := hW.swap.left
  refine callW_of (ops_calls (d := nc) hD) ?_
  rw [nn_v]
  rintro _ w31 ⟨rfl, hw⟩
  obtain rfl : w30 = w31 := hw.symm
  refine ⟨_, rfl, ?_⟩
  refine hJ _ _ ?_
  exact ⟨rfl, hx⟩
end Go.Proofs.YtpbjbhcejgnhiaaDoor.V
