/- The examples of chapter 4. -/
import Derived.Test.YtlpgfcfkjkmiiaaL
set_option linter.unusedVariables false
set_option linter.unusedSimpArgs false
namespace Go.Proofs.Ytlpgfcfkjkmiiaa.V
open Go Go.Proofs Go.RowKit Crc

def dA (n : Nat) : ByteArray := ⟨(List.replicate n 97).toArray⟩
def fA : Fra := (0, 0, dA 113)
def fB : Fra := (7, 0, dA 112)
theorem timesA (n : Nat) : (⟨(timesL (B ⟨#[97]⟩) n).toArray⟩ : ByteArray) = dA n := by
  apply B_inj
  rw [B_mk]
  show timesL [97] n = List.replicate n 97
  induction n with
  | zero => rfl
  | succ n ih => rw [List.replicate_succ, ← ih]; simp [timesL, List.replicate_succ]
theorem room128 : roomOf 128 = 112 := by kernel_rfl
theorem fA_put : (putR 128 fA).2 = 3 := by
  unfold putR
  rw [room128, if_neg (by omega), if_pos (by decide)]
theorem fB_put : putR 128 fB = (putB 128 fB, 0) := by
  unfold putR
  rw [room128, if_neg (by omega), if_neg (by decide)]
  rfl
theorem fB_len : (putB 128 fB).length = 128 := putB_length (by decide)
theorem fB_get : getR (putB 128 fB) = (fB, 0) := getR_putB (by kernel_rfl) (by omega) (by omega) (by decide) (by decide)
theorem fB_kind6 : (kindR (putB 128 fB) 6).2 = 11 := by unfold kindR; rw [fB_get]; rfl
theorem fB_kind7 : kindR (putB 128 fB) 7 = (fB, 0) := by unfold kindR; rw [fB_get]; rfl
theorem zero_get : (getR (timesL (B ⟨#[0]⟩) 128)).2 = 10 := by
  rw [getR_10 (by rw [beq_eq_false_iff_ne.symm]; kernel_rfl) (by rw [beq_eq_false_iff_ne.symm]; kernel_rfl)]
theorem fB_bad : (getR (1 :: (putB 128 fB).drop 1)).2 = 10 := by
  rw [getR_10 (by rw [beq_eq_false_iff_ne.symm]; kernel_rfl) (by rw [beq_eq_false_iff_ne.symm]; kernel_rfl)]
theorem names_calls (w : World) : Calls Try.prog 4 #[] w (Ret fun v w' => v = .bool true ∧ Ext w w') := by
  apply calls4
  unfold S4
  refine callW_of (lives_calls w) ?_
  rintro _ w1 ⟨rfl, he⟩
  refine ⟨_, rfl, splitW_f (by rfl) ?_⟩
  refine callW_of (fput_calls w1 100 (f := fra0) (by decide)) ?_
  rintro _ w2 ⟨rfl, he2⟩
  refine ⟨(⟨(putR 100 fra0).1.toArray⟩, (putR 100 fra0).2, ()), rfl, ?_⟩
  have he := he.trans he2
  refine callW_of (times_calls w2 ⟨#[97]⟩ (n := 113) (by omega) (by decide) (by decide)) ?_
  rintro _ w2 ⟨rfl, hw⟩
  subst hw
  refine ⟨_, rfl, ?_⟩
  rw [show Int.toNat 113 = 113 from rfl, timesA]
  refine callW_of (fput_calls w2 128 (f := fA) (by decide)) ?_
  rintro _ w3 ⟨rfl, he3⟩
  refine ⟨(⟨(putR 128 fA).1.toArray⟩, (putR 128 fA).2, ()), rfl, ?_⟩
  have he := he.trans he3
  refine callW_of (times_calls w3 ⟨#[97]⟩ (n := 112) (by omega) (by decide) (by decide)) ?_
  rintro _ w3 ⟨rfl, hw⟩
  subst hw
  refine ⟨_, rfl, ?_⟩
  rw [show Int.toNat 112 = 112 from rfl, timesA]
  refine callW_of (fput_calls w3 128 (f := fB) (by decide)) ?_
  rintro _ w4 ⟨rfl, he4⟩
  rw [fB_put]
  refine ⟨(⟨(putB 128 fB).toArray⟩, 0, ()), rfl, ?_⟩
  have he := he.trans he4
  dsimp only
  refine callW_of (fget_calls w4 ⟨#[97]⟩ (by decide)) ?_
  rintro _ w5 ⟨rfl, he5⟩
  refine ⟨(fT (getR (B ⟨#[97]⟩)).1, (getR (B ⟨#[97]⟩)).2, ()), rfl, ?_⟩
  have he := he.trans he5
  refine boxed (f := (getR (B ⟨#[97]⟩)).1) fun r8 w6 hb8 he6 _ => ?_
  have he := he.trans he6
  refine callW_of (times_calls w6 ⟨#[0]⟩ (n := 128) (by omega) (by decide) (by decide)) ?_
  rintro _ w6 ⟨rfl, hw⟩
  subst hw
  refine ⟨_, rfl, ?_⟩
  rw [show Int.toNat 128 = 128 from rfl]
  have hz : B (⟨(timesL (B ⟨#[0]⟩) 128).toArray⟩ : ByteArray) = timesL (B ⟨#[0]⟩) 128 := B_mk _
  generalize hzz : (⟨(timesL (B ⟨#[0]⟩) 128).toArray⟩ : ByteArray) = z at hz ⊢
  refine callW_of (fget_calls w6 z (by rw [B_size, hz, timesL_length]; decide)) ?_
  rintro _ w7 ⟨rfl, he7⟩
  refine ⟨(fT (getR (B z)).1, (getR (B z)).2, ()), rfl, ?_⟩
  have he := he.trans he7
  refine boxed (f := (getR (B z)).1) fun r11 w8 hb11 he8 _ => ?_
  have he := he.trans he8
  have hs : B (⟨(putB 128 fB).toArray⟩ : ByteArray) = putB 128 fB := B_mk _
  have hsz : (⟨(putB 128 fB).toArray⟩ : ByteArray).size = 128 := by rw [mk_size, fB_len]
  generalize hss : (⟨(putB 128 fB).toArray⟩ : ByteArray) = s at hs hsz ⊢
  refine callW_of (fkind_calls w8 s (by omega) 6) ?_
  rintro _ w9 ⟨rfl, he9⟩
  refine ⟨(fT (kindR (B s) 6).1, (kindR (B s) 6).2, ()), rfl, ?_⟩
  have he := he.trans he9
  refine boxed (f := (kindR (B s) 6).1) fun r13 w10 hb13 he10 _ => ?_
  have he := he.trans he10
  refine callW_of (fkind_calls w10 s (by omega) 7) ?_
  rintro _ w11 ⟨rfl, he11⟩
  refine ⟨(fT (kindR (B s) 7).1, (kindR (B s) 7).2, ()), rfl, ?_⟩
  have he := he.trans he11
  refine boxed (f := (kindR (B s) 7).1) fun r15 w12 hb15 he12 _ => ?_
  have he := he.trans he12
  refine splitW_f (by rw [hsz]; rfl) ?_
  refine guard_i ⟨by omega, by omega⟩ ?_
  have hu : B ((⟨#[1]⟩ : ByteArray) ++ s.extract (Int.toNat 1) s.size) = 1 :: (putB 128 fB).drop 1 := by
    rw [B_append, B_extract, hs, hsz]
    show 1 :: (List.take (128 - 1) (List.drop 1 (putB 128 fB))) = _
    rw [List.take_of_length_le (by rw [List.length_drop, fB_len]; omega)]
  have husz : ((⟨#[1]⟩ : ByteArray) ++ s.extract (Int.toNat 1) s.size).size = 128 := by
    rw [B_size, hu, List.length_cons, List.length_drop, fB_len]
  refine guard_i (by rw [← ByteArray.size_append, husz]; decide) ?_
  generalize huu : ((⟨#[1]⟩ : ByteArray) ++ s.extract (Int.toNat 1) s.size) = u at hu husz ⊢
  refine callW_of (fget_calls w12 u (by omega)) ?_
  rintro _ w13 ⟨rfl, he13⟩
  refine ⟨(fT (getR (B u)).1, (getR (B u)).2, ()), rfl, ?_⟩
  have he := he.trans he13
  have hb15 := hb15.ext he13
  refine boxed (f := (getR (B u)).1) fun r17 w14 hb17 he14 _ => ?_
  have he := he.trans he14
  have hb15 := hb15.ext he14
  rw [hs, fB_kind7] at hb15
  rw [hs, fB_kind6, fB_kind7, hu, fB_bad, hz, zero_get, fA_put]
  refine joinW_s (fun x w' => x = (true, ()) ∧ Ext w w') ?_ (fun J hJ => ?_)
  · rintro _ w' ⟨rfl, he⟩
    exact ⟨rfl, he⟩
  refine splitW_t (by kernel_rfl) (splitW_t (by rfl) (splitW_t (by rfl) (splitW_t (by kernel_rfl) (splitW_t (by rfl) (splitW_t (by rfl) (splitW_t (by rfl) ?_))))))
  refine boxF 2 fB.2.2 hb15 (by rfl) ?_
  refine splitW_t (by kernel_rfl) (splitW_t (by rfl) ?_)
  refine callW_of (room_calls w14 128) ?_
  rintro _ w15 ⟨rfl, he15⟩
  refine ⟨_, rfl, splitW_t (by kernel_rfl) ?_⟩
  have he := he.trans he15
  refine callW_of (room_calls w15 4096) ?_
  rintro _ w16 ⟨rfl, he16⟩
  refine ⟨_, rfl, splitW_t (by kernel_rfl) ?_⟩
  have he := he.trans he16
  refine callW_of (room_calls w16 0) ?_
  rintro _ w17 ⟨rfl, he17⟩
  refine ⟨_, rfl, splitW_t (by kernel_rfl) ?_⟩
  have he := he.trans he17
  refine callW_of (room_calls w17 129) ?_
  rintro _ w18 ⟨rfl, he18⟩
  refine ⟨_, rfl, hJ _ _ ⟨?_, he.trans he18⟩⟩
  kernel_rfl
end Go.Proofs.Ytlpgfcfkjkmiiaa.V
