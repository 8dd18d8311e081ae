/- Law DeviceRot. -/
import Derived.Test.YtpbjbhcejgnhiaaDoorL2
set_option linter.unusedVariables false
set_option linter.unusedSimpArgs false
namespace Go.Proofs.YtpbjbhcejgnhiaaDoor.V
open Go Go.Proofs Go.RowKit Crc

theorem flip_get {bs : List UInt8} {bit n : Nat} {m : W32} {i : Nat} (hi : i < bs.length) : (flip bs bit n m).getD i 0 = bs.getD i 0 ^^^ fbyte bit n m i := by
  rw [Crc.flip, getD_xors (by rw [length_flipd]), getD_flipd hi]
theorem fbyte_eq {bit n bit' n' : Nat} {m : W32} {i i' : Nat} (h : ∀ j, j < 8 → fbit bit n m (8 * i + j) = fbit bit' n' m (8 * i' + j)) : fbyte bit n m i = fbyte bit' n' m i' := by
  apply UInt8.eq_of_toBitVec_eq
  apply bv8_ext
  intro j hj
  rw [get_fbyte _ _ _ _ hj, get_fbyte _ _ _ _ hj, h j hj]
theorem fbyte_none {bit n : Nat} {m : W32} {i : Nat} (h : ∀ j, j < 8 → fbit bit n m (8 * i + j) = false) : fbyte bit n m i = 0 := by
  apply UInt8.eq_of_toBitVec_eq
  apply bv8_ext
  intro j hj
  rw [get_fbyte _ _ _ _ hj, h j hj]
  simp
theorem flip_part {Q X S : List UInt8} {bit : Nat} {m : W32} (hm : ∀ i, i < 32 → m.getLsbD i = true → bit + i < 8 * X.length) :
    flip (Q ++ X ++ S) (8 * Q.length + bit) 32 m = Q ++ flip X bit 32 m ++ S := by
  have hin : ∀ p, fbit (8 * Q.length + bit) 32 m p = true → 8 * Q.length ≤ p ∧ p < 8 * Q.length + 8 * X.length := by
    intro p hp
    unfold fbit at hp
    rw [Bool.and_eq_true] at hp
    have h1 := of_decide_eq_true hp.1
    have := hm (p - (8 * Q.length + bit)) (by omega) hp.2
    omega
  apply bytes_ext (by simp [length_flip])
  intro i hi
  rw [length_flip] at hi
  rw [flip_get hi]
  have hl : (Q ++ X ++ S).length = Q.length + X.length + S.length := by simp; omega
  by_cases h1 : i < Q.length
  · rw [fbyte_none (fun j hj => by
      cases hb : fbit (8 * Q.length + bit) 32 m (8 * i + j) with
      | false => rfl
      | true => have := hin _ hb; omega)]
    simp only [List.append_assoc, List.getD_eq_getElem?_getD]
    rw [List.getElem?_append_left h1, List.getElem?_append_left h1, u8_xor_zero]
  · by_cases h2 : i < Q.length + X.length
    · have e1 : (Q ++ X ++ S).getD i 0 = X.getD (i - Q.length) 0 := by
        simp only [List.append_assoc, List.getD_eq_getElem?_getD]
        rw [List.getElem?_append_right (by omega), List.getElem?_append_left (by omega)]
      have e2 : (Q ++ flip X bit 32 m ++ S).getD i 0 = (flip X bit 32 m).getD (i - Q.length) 0 := by
        simp only [List.append_assoc, List.getD_eq_getElem?_getD]
        rw [List.getElem?_append_right (by omega), List.getElem?_append_left (by rw [length_flip]; omega)]
      rw [e1, e2, flip_get (by omega)]
      congr 1
      refine fbyte_eq fun j hj => ?_
      unfold fbit
      rw [show 8 * i + j - (8 * Q.length + bit) = 8 * (i - Q.length) + j - bit by omega]
      congr 1
      exact decide_eq_decide.2 (by omega)
    · rw [fbyte_none (fun j hj => by
        cases hb : fbit (8 * Q.length + bit) 32 m (8 * i + j) with
        | false => rfl
        | true => have := hin _ hb; omega)]
      rw [u8_xor_zero]
      simp only [List.getD_eq_getElem?_getD]
      rw [List.getElem?_append_right (by simp; omega), List.getElem?_append_right (by simp [length_flip]; omega)]
      simp [length_flip]
theorem flip_ne {bs : List UInt8} {bit i : Nat} {m : W32} (hi : i < 32) (hb : m.getLsbD i = true) (hl : bit + i < 8 * bs.length) : flip bs bit 32 m ≠ bs := by
  intro h
  have h1 := flip_get (bs := bs) (bit := bit) (n := 32) (m := m) (i := (bit + i) / 8) (by omega)
  rw [h] at h1
  have h2 : (fbyte bit 32 m ((bit + i) / 8)).toBitVec = 0#8 := by
    generalize bs.getD ((bit + i) / 8) 0 = x at h1
    generalize fbyte bit 32 m ((bit + i) / 8) = y at h1
    have h3 : x ^^^ x = x ^^^ (x ^^^ y) := congrArg (fun q => x ^^^ q) h1
    rw [← UInt8.xor_assoc, UInt8.xor_self, UInt8.zero_xor] at h3
    rw [← h3]
    rfl
  have h4 := get_fbyte bit 32 m ((bit + i) / 8) (j := (bit + i) % 8) (by omega)
  rw [h2] at h4
  have h5 : fbit bit 32 m (8 * ((bit + i) / 8) + (bit + i) % 8) = true := by
    rw [Nat.div_add_mod]
    unfold fbit
    rw [decide_eq_true (by omega), Nat.add_sub_cancel_left, hb]
    rfl
  rw [h5] at h4
  simp at h4
theorem bit_of {m : W32} (h : m ≠ 0) : ∃ i, i < 32 ∧ m.getLsbD i = true := by
  apply Classical.byContradiction
  intro hn
  apply h
  apply BitVec.eq_of_getLsbD_eq
  intro i hi
  cases hb : m.getLsbD i with
  | false => simp
  | true => exact absurd ⟨i, hi, hb⟩ hn
theorem image_split {l : List ByteArray} {k : Nat} (hk : k < l.length) : l.flatMap B = (l.take k).flatMap B ++ B (l.getD k ByteArray.empty) ++ (l.drop (k + 1)).flatMap B := by
  have : l = l.take k ++ l.getD k ByteArray.empty :: l.drop (k + 1) := by
    rw [List.getD_eq_getElem?_getD, List.getElem?_eq_getElem hk, Option.getD_some, ← List.drop_eq_getElem_cons hk, List.take_append_drop]
  conv => lhs; rw [this]
  rw [List.flatMap_append, List.flatMap_cons, List.append_assoc]
theorem image_set {l : List ByteArray} {k : Nat} (hk : k < l.length) (x : ByteArray) : (l.set k x).flatMap B = (l.take k).flatMap B ++ B x ++ (l.drop (k + 1)).flatMap B := by
  rw [List.set_eq_take_append_cons_drop, if_pos hk, List.flatMap_append, List.flatMap_cons, List.append_assoc]
theorem rotted_image {d : Dev} (h : d.Ok) {k bit : Int} {m : W32} (hr : d.rotOK k bit m) : (d.rotted k bit m).image = flip d.image (k * d.size * 8 + bit).toNat 32 m := by
  obtain ⟨hk, hb0, hb1, hm, hin⟩ := hr
  have hd := h.dims
  have hat := h.at_ hk.1 hk.2
  have hkl : k.toNat < d.dur.length := by omega
  unfold Dev.image Dev.rotted
  rw [image_set hkl, image_split hkl, B_mkB]
  have hQ : ((d.dur.take k.toNat).flatMap B).length = k.toNat * d.size.toNat := by
    rw [flat_len (n := d.size.toNat) _ (fun s hs => by have := h.each s (List.mem_of_mem_take hs); omega), List.length_take, Nat.min_eq_left (by omega)]
  have e : (k * d.size * 8 + bit).toNat = 8 * ((d.dur.take k.toNat).flatMap B).length + bit.toNat := by
    rw [hQ]
    obtain ⟨K, rfl⟩ : ∃ K : Nat, k = K := ⟨k.toNat, by omega⟩
    obtain ⟨z, hz⟩ : ∃ z : Nat, d.size = z := ⟨d.size.toNat, by omega⟩
    obtain ⟨t, rfl⟩ : ∃ t : Nat, bit = t := ⟨bit.toNat, by omega⟩
    rw [hz]
    simp only [Int.toNat_natCast]
    have : ((K : Int) * (z : Int) * 8 + (t : Int)) = ((8 * (K * z) + t : Nat) : Int) := by
      rw [Int.natCast_add, Int.natCast_mul, Int.natCast_mul]; omega
    rw [this, Int.toNat_natCast]
  rw [e, flip_part]
  intro i i1 i2
  have := hin i i1 i2
  rw [← B_size]
  omega
theorem rotted_twice {d : Dev} (h : d.Ok) {k bit : Int} {m : W32} (hr : d.rotOK k bit m) : ((d.rotted k bit m).rotted k bit m).image = d.image := by
  have h2 : (d.rotted k bit m).rotOK k bit m := hr
  rw [rotted_image (h.rotted hr) h2, rotted_image h hr]
  show flip (flip d.image _ 32 m) _ 32 m = _
  exact flip_flip _ _ _ _
theorem rotted_ne {d : Dev} (h : d.Ok) {k bit : Int} {m : W32} (hr : d.rotOK k bit m) : (d.rotted k bit m).image ≠ d.image := by
  rw [rotted_image h hr]
  obtain ⟨hk, hb0, hb1, hm, hin⟩ := hr
  obtain ⟨i, i1, i2⟩ := bit_of hm
  have h3 := hin i i1 i2
  have hd := h.dims
  refine flip_ne i1 i2 ?_
  rw [h.image]
  obtain ⟨K, rfl⟩ : ∃ K : Nat, k = K := ⟨k.toNat, by omega⟩
  obtain ⟨z, hz⟩ : ∃ z : Nat, d.size = z := ⟨d.size.toNat, by omega⟩
  obtain ⟨t, rfl⟩ : ∃ t : Nat, bit = t := ⟨bit.toNat, by omega⟩
  rw [hz] at h3 ⊢
  have : ((K : Int) * (z : Int) * 8 + (t : Int)) = ((8 * (K * z) + t : Nat) : Int) := by
    rw [Int.natCast_add, Int.natCast_mul, Int.natCast_mul]; omega
  rw [this, Int.toNat_natCast, Int.toNat_natCast]
  have h4 : (K + 1) * z ≤ d.blocks.toNat * z := Nat.mul_le_mul_right _ (by omega)
  rw [Nat.add_mul, Nat.one_mul] at h4
  omega
theorem rot_law {w : World} (hT : DeB w) {size blocks : Int} (hs : I64 size) (hbk : I64 blocks) (bb : UInt8) {block bit : Int} (hblk : I64 block) (hbit : I64 bit) (m : W32) :
    Calls Tryd.prog 7 #[.agg #[.int .i64 size, .int .i64 blocks], .int .u8 (bb.toNat : Int), .int .i64 block, .int .i64 bit, .int .u32 (m.toNat : Int)] w (Ret fun v w' => v = .bool true ∧ Ext w w') := by
  apply calls7
  unfold S7
  refine new_i fun r1 w1 hb1 he1 hr1 hz1 => ?_
  have hb1 : Blk w1 r1 [.int .i64 size, .int .i64 blocks] 23 := hb1
  refine callW_of (lives_calls (hT.ext he1)) ?_
  rintro _ w2 ⟨rfl, he2⟩
  refine ⟨_, rfl, splitW_f (by rfl) ?_⟩
  have hb2 := hb1.ext he2
  have hx2 := he1.trans he2
  refine boxA (ls := [.int .i64, .int .i64]) (size, blocks, ()) hb2 rfl ?_
  refine callW_of (lightgeo_calls w2 size blocks) ?_
  rintro _ w3 ⟨rfl, he3⟩
  have hb3 := hb2.ext he3
  have hx3 := hx2.trans he3
  refine ⟨_, rfl, splitW_i (fun _ => ⟨rfl, hx3⟩) (fun hl => ?_)⟩
  refine boxA (ls := [.int .i64, .int .i64]) (size, blocks, ()) hb3 rfl ?_
  refine callW_of (devcheck_calls w3 size blocks) ?_
  rintro _ w4 ⟨rfl, he4⟩
  have hb4 := hb3.ext he4
  have hx4 := hx3.trans he4
  refine ⟨_, rfl, ?_⟩
  cases hok : geoOK size blocks with
  | false => exact splitW_t (by rfl) ⟨rfl, hx4⟩
  | true =>
  have hg := geo_dims hok
  obtain ⟨N, rfl⟩ : ∃ N : Nat, blocks = N := ⟨blocks.toNat, by omega⟩
  obtain ⟨z, rfl⟩ : ∃ z : Nat, size = z := ⟨size.toNat, by omega⟩
  have hNz : N * z ≤ 16777216 := Nat.le_trans (Nat.mul_le_mul (show N ≤ 4096 by omega) (show z ≤ 4096 by omega)) (by decide)
  have ew : IntKind.wrap .i64 ((z : Int) * (N : Int)) = ((N * z : Nat) : Int) := by
    rw [show (z : Int) * (N : Int) = ((N * z : Nat) : Int) by rw [Int.natCast_mul, Int.mul_comm], wrap_i64 (by omega) (by omega)]
  refine splitW_f (by rfl) (box0 (z : Int) hb4 (by rfl) (boxF 1 (N : Int) hb4 (by rfl) ?_))
  rw [ew]
  refine new_i fun r9 w5 hb9 he5 _ _ => ?_
  refine conv_str (bs := [bb]) (e := 5) (by kernel_rfl) (by kernel_rfl) (by kernel_rfl) (Sl.of_blk hb9 rfl (by omega)) ?_
  refine callW_of (full_calls w5 (mkB [bb]) (n := ((N * z : Nat) : Int)) (by omega) (by show 1 * _ ≤ _; omega) (by show 1 ≤ _; omega)) ?_
  rintro _ w6 ⟨rfl, hw⟩
  obtain rfl : w5 = w6 := hw.symm
  refine ⟨_, rfl, ?_⟩
  have hb5 := hb4.ext he5
  have hx5 := hx4.trans he5
  rw [Int.toNat_natCast, B_mkB]
  obtain ⟨img, himg⟩ : ∃ img, img = mkB (timesL [bb] (N * z)) := ⟨_, rfl⟩
  rw [← himg]
  have hisz : img.size = N * z := by rw [himg, mkB_size, timesL_length]; simp
  refine boxA (ls := [.int .i64, .int .i64]) ((z : Int), (N : Int), ()) hb5 rfl ?_
  refine callW_of (dload_calls w5 z N img (by omega)) ?_
  rintro _ w6 h6
  rcases h6 with ⟨_, _, b, rfl, hN⟩ | ⟨hno, _⟩
  rotate_left
  · exact absurd ⟨hok, by rw [Int.toNat_natCast, Int.toNat_natCast]; exact hisz⟩ hno
  refine ⟨(some ⟨b, 0, none⟩, 0, ()), rfl, splitW_f (by rfl) ?_⟩
  obtain ⟨F, hD, hlo, hx6⟩ := hN
  have himage : (devLoad z N img).image = B img := devLoad_image (by rw [Int.toNat_natCast, Int.toNat_natCast]; exact hisz)
  have hDs : (devLoad z N img).size = z := rfl
  have hDb : (devLoad z N img).blocks = N := rfl
  generalize devLoad z N img = D at hD himage hDs hDb
  refine callW_of (image_calls hD) ?_
  rw [himage, mkB_B]
  rintro _ w7 ⟨rfl, he7⟩
  refine ⟨_, rfl, splitW_f (by rw [str_beq, decide_eq_true rfl]; rfl) ?_⟩
  replace hD := hD.ext he7
  replace hx6 := hx6.trans he7
  refine callW_of (rot_calls hD block bit m hbit.2) ?_
  rintro _ w8 ⟨rfl, hst⟩
  refine ⟨_, rfl, ?_⟩
  by_cases hr : D.rotOK block bit m
  rotate_left
  · have e : D.rot block bit m = (D, 2) := if_neg hr
    rw [e] at hst ⊢
    obtain ⟨F', hD', hlo', hx'⟩ := DevNew.step hlo hx6 hst
    refine splitW_t (by rfl) (splitW_t (by rfl) ?_)
    refine callW_of (image_calls hD') ?_
    rw [himage, mkB_B]
    rintro _ w9 ⟨rfl, he9⟩
    exact ⟨_, rfl, by rw [str_beq, decide_eq_true rfl], (hx5.trans hx').trans he9⟩
  have e : D.rot block bit m = (D.rotted block bit m, 0) := if_pos hr
  rw [e] at hst ⊢
  obtain ⟨F1, hD1, hlo1, hx1⟩ := DevNew.step hlo hx6 hst
  refine splitW_f (by rfl) ?_
  refine conv_bytes (u := .string) (e := 5) (by kernel_rfl) (by kernel_rfl) (by kernel_rfl) (by omega) ?_
  intro c9 w9 hsl9 he9 _ _
  have hb9' := (hb5.ext hx1).ext he9
  refine box0 (z : Int) hb9' (by rfl) ?_
  have hk := hr.1
  have hb0 := hr.2.1
  have hb1' := hr.2.2.1
  rw [hDb] at hk
  rw [hDs] at hb1'
  obtain ⟨K, rfl⟩ : ∃ K : Nat, block = K := ⟨block.toNat, by omega⟩
  have hKz : K * z ≤ N * z := Nat.mul_le_mul_right _ (by omega)
  have e1 : IntKind.wrap .i64 (IntKind.wrap .i64 (IntKind.wrap .i64 ((K : Int) * (z : Int)) * 8) + bit) = (K : Int) * (z : Int) * 8 + bit := by
    have ek : (K : Int) * (z : Int) = ((K * z : Nat) : Int) := by rw [Int.natCast_mul]
    rw [ek]
    have := Nat.zero_le (K * z)
    rw [wrap_i64 (x := ((K * z : Nat) : Int)) (by omega) (by omega), wrap_i64 (x := ((K * z : Nat) : Int) * 8) (by omega) (by omega), wrap_i64 (by omega) (by omega)]
  rw [e1]
  have ek : (K : Int) * (z : Int) = ((K * z : Nat) : Int) := by rw [Int.natCast_mul]
  refine callW_of (rflip_calls (n := img.size) (bit := (K : Int) * (z : Int) * 8 + bit) (k := 32) (m := m) hsl9 (by omega) (by rw [ek]; omega) (by rw [ek]; omega)) ?_
  rintro _ w10 ⟨x10, rfl, ho10, he10⟩
  refine ⟨x10, rfl, ?_⟩
  refine conv_str (e := 5) (by kernel_rfl) (by kernel_rfl) (by kernel_rfl) ho10.sl ?_
  replace hD1 := (hD1.ext he9).ext he10
  replace hx1 := (hx1.trans he9).trans he10
  refine callW_of (image_calls hD1) ?_
  rintro _ w11 ⟨rfl, he11⟩
  refine ⟨_, rfl, ?_⟩
  replace hD1 := hD1.ext he11
  replace hx1 := hx1.trans he11
  have hrot := rotted_image hD.ok hr
  rw [hDs, himage] at hrot
  have hfl : flipG (B img) ((K : Int) * (z : Int) * 8 + bit) 32 m = (D.rotted K bit m).image := by
    rw [hrot]
    unfold flipG
    rw [if_neg (by rw [ek]; omega)]
    rfl
  rw [hfl]
  refine splitW_t (by rw [str_beq]; exact decide_eq_true rfl) ?_
  have hne := rotted_ne hD.ok hr
  rw [himage] at hne
  refine splitW_t (by rw [str_beq, B_mkB, decide_eq_false hne]; rfl) ?_
  have hr2 : (D.rotted K bit m).rotOK K bit m := hr
  have e2 : (D.rotted K bit m).rot K bit m = ((D.rotted K bit m).rotted K bit m, 0) := if_pos hr2
  refine callW_of (rot_calls hD1 K bit m hbit.2) ?_
  rw [e2]
  rintro _ w12 ⟨rfl, hst⟩
  refine ⟨_, rfl, splitW_t (by rfl) ?_⟩
  obtain ⟨F2, hD2, hlo2, hx2'⟩ := DevNew.step hlo1 hx1 hst
  refine callW_of (image_calls hD2) ?_
  rw [rotted_twice hD.ok hr, himage, mkB_B]
  rintro _ w13 ⟨rfl, he13⟩
  exact ⟨_, rfl, by rw [str_beq, decide_eq_true rfl], (hx5.trans hx2').trans he13⟩
end Go.Proofs.YtpbjbhcejgnhiaaDoor.V
