/- Contracts of the package frame, and of the document's answer (4). -/
import Derived.Test.YtiiemgndnpflbaaKFrame
import Derived.Test.YtiiemgndnpflbaaKRef02
set_option linter.unusedVariables false
set_option linter.unusedSimpArgs false
namespace Go.Proofs.Ytiiemgndnpflbaa.V
open Go Go.Proofs Go.RowKit Crc

abbrev fLs : List Lf := [.int .u8, .int .u64, .str]
/-- A frame's box is filled, and read. -/
theorem setA {w : World} {r : Nat} {cs : List Value} {t : TypeId} {f : Fra} {K : (Int × Int × ByteArray × Unit) → WP} {us : Array Value} (hb : Blk w r cs t) (hl : cs.length = 3) (hu : us.size = 3)
    (hK : ∀ w', Blk w' r (fV f) t → (∀ w0, Ext w0 w → w0.heap.size ≤ r → Ext w0 w') → (∀ k : Nat, k ≠ r → w'.heap[k]? = w.heap[k]?) → w'.heap.size = w.heap.size → K (fT f) w') :
    (guardW (us.size = 3) <| stAW (⟨r, 0, none⟩ : Addr) (fV f) <| ldAW fLs (⟨r, 0, none⟩ : Addr) K) w :=
  refill (vs := fV f) hb (by rw [hl]; rfl) (fV_one f) hu fun w' hb' hx hs hz => boxA (ls := fLs) (fT f) hb' rfl (hK w' hb' hx hs hz)
theorem retA {w : World} {r : Nat} {t : TypeId} {f : Fra} {K : (Int × Int × ByteArray × Unit) → WP} (hb : Blk w r (fV f) t)
    (hK : ∀ w', (∀ w0, Ext w0 w → w0.heap.size ≤ r → Ext w0 w') → K (fT f) w') :
    (ldAW fLs (⟨r, 0, none⟩ : Addr) fun (u : Int × Int × ByteArray × Unit) => guardW ((#[(.int .u8 u.1), (.int .u64 u.2.1), (.string u.2.2.1)] : Array Value).size = 3) <| stAW (⟨r, 0, none⟩ : Addr) [(.int .u8 u.1), (.int .u64 u.2.1), (.string u.2.2.1)] <| ldAW fLs (⟨r, 0, none⟩ : Addr) K) w :=
  boxA (ls := fLs) (fT f) hb rfl (setA (f := f) hb rfl rfl fun w' _ hx _ _ => hK w' hx)
/-- A frame that came back, put into a box of its own. -/
theorem boxed {w : World} {t : TypeId} {f : Fra} {K : Nat → WP} (hK : ∀ r w', Blk w' r (fV f) t → Ext w w' → w.heap.size ≤ r → K r w') :
    (newW (.cells #[(.int .u8 (0 : Int)), (.int .u64 (0 : Int)), (.string ByteArray.empty)] t) fun r => guardW ((#[(.int .u8 (fT f).1), (.int .u64 (fT f).2.1), (.string (fT f).2.2.1)] : Array Value).size = 3) <| stAW (⟨r, 0, none⟩ : Addr) [(.int .u8 (fT f).1), (.int .u64 (fT f).2.1), (.string (fT f).2.2.1)] (K r)) w :=
  box_i (vs := fV f) (by rfl) (fV_one f) (fun r w' hb he hr => hK r w' hb he hr) (by rfl)
theorem heldB {w : World} {A : Option Addr} {n : Nat} {bs : List UInt8} {a : Addr} {K : WP} (h : Sl w A n (bV bs)) (hA : A = some a) (hn : 0 < n) (hK : K w) : heldW [[((a.add (Int.toNat (0 : Int) * 1)), (.int .u8 ((bs.getD 0 0).toNat : Int)))]] K w := by
  refine ⟨fun l hl p hp => ?_, hK⟩
  simp only [List.mem_singleton] at hl
  subst hl
  simp only [List.mem_singleton] at hp
  subst hp
  have hl := h.blen
  obtain ⟨a', e, hc⟩ := h.2.2 hn
  rw [hA] at e
  injection e with e
  subst e
  have := hc 0 (.int .u8 ((bs.getD 0 0).toNat : Int)) (by simp [bV, show 0 < bs.length by omega])
  exact this
/-- The parts of a block that are looked at. -/
structure Looks (w : World) (A : Option Addr) (n c : Nat) (bs : List UInt8) : Prop where
  sl : Sl w A n (bV bs)
  nc : n ≤ c
  big : 128 ≤ n ∧ n ≤ 4096
theorem Looks.body {w : World} {A : Option Addr} {n c : Nat} {bs : List UInt8} (h : Looks w A n c bs) : Sl w (cutAddr A 0 c 1) (n - 4) (bV (bs.take (bs.length - 4))) := by
  have := h.sl.cut0 (k := n - 4) (m := c) (by have := h.big; omega) (by have := h.big; have := h.nc; omega)
  rw [bV_take] at this
  rw [h.sl.blen]
  exact this
theorem Looks.part {w : World} {A : Option Addr} {n c : Nat} {bs : List UInt8} (h : Looks w A n c bs) {l k : Nat} (hl : l + k ≤ n) (hk : 0 < k) : Sl w (cutAddr A l c 1) k (bV ((bs.drop l).take k)) := by
  have := h.sl.cut (l := l) (k := k) (m := c) (by omega) (by have := h.nc; omega)
  rw [bV_drop, bV_take] at this
  exact this
theorem Looks.tail {w : World} {A : Option Addr} {n c : Nat} {bs : List UInt8} (h : Looks w A n c bs) : Sl w (cutAddr A (n - 4) c 1) (n - (n - 4)) (bV (bs.drop (bs.length - 4))) := by
  have := h.part (l := n - 4) (k := n - (n - 4)) (by have := h.big; omega) (by have := h.big; omega)
  have hl := h.sl.blen
  rw [List.take_of_length_le (by simp; have := h.big; omega)] at this
  rw [hl]
  exact this
theorem Looks.ext {w w' : World} {A : Option Addr} {n c : Nat} {bs : List UInt8} (h : Looks w A n c bs) (he : Ext w w') : Looks w' A n c bs := ⟨h.sl.ext he, h.nc, h.big⟩
/-- getR, a step after the other. -/
theorem getR_2 {bs : List UInt8} (h : roomOf bs.length = 0) : getR bs = (fra0, 2) := by unfold getR; rw [if_pos h]
theorem getR_10 {bs : List UInt8} (h : roomOf bs.length ≠ 0) (h1 : (crc (bs.take (bs.length - 4))).toNat ≠ lev (bs.drop (bs.length - 4))) : getR bs = (fra0, 10) := by unfold getR; rw [if_neg h, if_pos h1]
theorem getR_4 {bs : List UInt8} (h : roomOf bs.length ≠ 0) (h1 : (crc (bs.take (bs.length - 4))).toNat = lev (bs.drop (bs.length - 4))) (h2 : (lev ((bs.drop 2).take 2) : Int) > roomOf bs.length) : getR bs = (fra0, 4) := by unfold getR; rw [if_neg h, if_neg (by simp [h1]), if_pos h2]
theorem getR_4' {bs : List UInt8} (h : roomOf bs.length ≠ 0) (h1 : (crc (bs.take (bs.length - 4))).toNat = lev (bs.drop (bs.length - 4))) (h2 : ¬ (lev ((bs.drop 2).take 2) : Int) > roomOf bs.length) (h3 : putR bs.length (frameB bs) ≠ (bs, 0)) : getR bs = (fra0, 4) := by unfold getR; rw [if_neg h, if_neg (by simp [h1]), if_neg h2, if_neg h3]
theorem getR_0 {bs : List UInt8} (h : roomOf bs.length ≠ 0) (h1 : (crc (bs.take (bs.length - 4))).toNat = lev (bs.drop (bs.length - 4))) (h2 : ¬ (lev ((bs.drop 2).take 2) : Int) > roomOf bs.length) (h3 : putR bs.length (frameB bs) = (bs, 0)) : getR bs = (frameB bs, 0) := by unfold getR; rw [if_neg h, if_neg (by simp [h1]), if_neg h2, if_pos h3]
theorem lev_lt4 {bs : List UInt8} (h : bs.length ≤ 4) : lev bs < 4294967296 := by
  have := lev_lt bs
  have : 256 ^ bs.length ≤ 256 ^ 4 := Nat.pow_le_pow_right (by omega) h
  omega
theorem fget_calls (w : World) (s : ByteArray) (hs : s.size ≤ 9223372036854775807) : Calls Try.prog 44 #[.string s] w (Ret fun v w' => v = .tuple #[.agg (fV (getR (B s)).1).toArray, .int .i64 (getR (B s)).2] ∧ Ext w w') := by
  apply calls44
  unfold S44
  have hsz := B_size s
  refine new_i fun r1 w1 hb1 he1 hr1 _ => ?_
  have hb1 : Blk w1 r1 (fV fra0) 49 := hb1
  refine callW_of (room_calls w1 (s.size : Nat)) ?_
  rintro _ w2 ⟨rfl, he2⟩
  refine ⟨_, rfl, ?_⟩
  have hb1 := hb1.ext he2
  have he2 := he1.trans he2
  have hr1' : w.heap.size ≤ r1 := by omega
  have done : ∀ {w' : World} {f : Fra} {e : Int}, Ext w w' → Blk w' r1 (fV f) 49 → getR (B s) = (f, e) →
      (ldAW fLs (⟨r1, 0, none⟩ : Addr) fun (u : Int × Int × ByteArray × Unit) => guardW ((#[(.int .u8 u.1), (.int .u64 u.2.1), (.string u.2.2.1)] : Array Value).size = 3) <| stAW (⟨r1, 0, none⟩ : Addr) [(.int .u8 u.1), (.int .u64 u.2.1), (.string u.2.2.1)] <| ldAW fLs (⟨r1, 0, none⟩ : Addr) fun (u : Int × Int × ByteArray × Unit) => fun w'' => Value.tuple #[(.agg #[(.int .u8 u.1), (.int .u64 u.2.1), (.string u.2.2.1)]), (.int .i64 e)] = .tuple #[.agg (fV (getR (B s)).1).toArray, .int .i64 (getR (B s)).2] ∧ Ext w w'') w' := fun {w' f e} he hb hg =>
    retA hb fun w'' hx => ⟨by rw [hg]; rfl, hx w he hr1'⟩
  rw [hsz] at hs ⊢
  rcases roomOf_cases (B s).length with h0 | ⟨h0, h1, h2, hgeo⟩
  · rw [h0]
    exact splitW_t (by rfl) (done he2 hb1 (getR_2 h0))
  refine splitW_f (by rw [beq_eq_false_iff_ne]; omega) ?_
  have hne : roomOf (B s).length ≠ 0 := by omega
  refine conv_bytes (u := .string) (e := 5) (by kernel_rfl) (by kernel_rfl) (by kernel_rfl) (by omega) ?_
  intro c w3 hsl he3 hs3 hc
  have hL : Looks w3 (some ⟨w2.heap.size, 0, none⟩) s.size c (B s) := ⟨hsl, hc, by omega⟩
  rw [hsz] at hL
  have hb1 := hb1.ext he3
  have he3 := he2.trans he3
  refine draw_i fun w4 he4 _ _ => ?_
  have hL := hL.ext he4
  have hb1 := hb1.ext he4
  have he4 := he3.trans he4
  dsimp only
  rw [hsz]
  generalize hA : (some (⟨w2.heap.size, 0, none⟩ : Addr)) = A at hL ⊢
  rw [wrap_i64 (x := ((B s).length : Int) - 4) (by omega) (by omega), show Int.toNat (((B s).length : Int) - 4) = (B s).length - 4 by omega]
  refine guard_i ⟨by omega, by omega⟩ (guard_i ⟨by omega, by omega⟩ ?_)
  refine callW_of (crc_calls hL.body) ?_
  rintro _ w5 ⟨rfl, he5⟩
  refine ⟨_, rfl, ?_⟩
  have hL := hL.ext he5
  have hb1 := hb1.ext he5
  have he5 := he4.trans he5
  refine callW_of (octof_calls hL.tail (by omega)) ?_
  rintro _ w6 ⟨rfl, he6⟩
  refine ⟨_, rfl, ?_⟩
  have hL := hL.ext he6
  have hb1 := hb1.ext he6
  have he6 := he5.trans he6
  have hclt := (crc ((B s).take ((B s).length - 4))).isLt
  rw [wrap_u64_nat (by omega)]
  refine splitW_i (fun hbad => ?_) (fun hok => ?_)
  · have hbad := bne_iff_ne.1 hbad
    exact done he6 hb1 (getR_10 hne (fun e => hbad (by rw [e])))
  have hok : (crc ((B s).take ((B s).length - 4))).toNat = lev ((B s).drop ((B s).length - 4)) := by have := bne_eq_false_iff_eq.1 hok; omega
  refine guard_i ⟨by omega, by omega, by omega⟩ ?_
  have hp2 := hL.part (l := 2) (k := 2) (by omega) (by omega)
  refine callW_of (octof_calls (c := c - Int.toNat 2) hp2 (by omega)) ?_
  rintro _ w7 ⟨rfl, he7⟩
  refine ⟨_, rfl, ?_⟩
  have hL := hL.ext he7
  have hb1 := hb1.ext he7
  have he7 := he6.trans he7
  have hk := lev_lt4 (bs := ((B s).drop 2).take 2) (by simp; omega)
  rw [wrap_i64 (x := (lev (((B s).drop 2).take 2) : Int)) (by omega) (by omega)]
  refine splitW_i (fun hbig => ?_) (fun hfit => ?_)
  · exact done he7 hb1 (getR_4 hne hok (of_decide_eq_true hbig))
  have hfit := of_decide_eq_false hfit
  refine draw_i fun w8 he8 _ _ => ?_
  have hL := hL.ext he8
  have hb1 := hb1.ext he8
  have he8 := he7.trans he8
  refine guard_i ⟨by omega, by omega⟩ ?_
  obtain ⟨a, ha, hcell⟩ := hL.sl.2.2 (by omega)
  refine ⟨a, ha, ?_⟩
  have h00 : w8.cell? (a.add (Int.toNat (0 : Int) * 1)) = some (.int .u8 (((B s).getD 0 0).toNat : Int)) := hcell 0 _ (by simp [bV, show 0 < (B s).length by omega])
  refine ld_i (l := .int .u8) (x := (((B s).getD 0 0).toNat : Int)) h00 ?_
  rw [wrap_i64 (x := (12 : Int) + _) (by omega) (by omega), show Int.toNat ((12 : Int) + (lev (((B s).drop 2).take 2) : Int)) = 12 + lev (((B s).drop 2).take 2) by omega]
  refine guard_i ⟨by omega, by omega, by have := hL.nc; omega⟩ (guard_i ⟨by omega, by omega, by omega⟩ ?_)
  have hp4 := hL.part (l := 4) (k := 8) (by omega) (by omega)
  refine callW_of (octof_calls (c := c - Int.toNat 4) hp4 (by omega)) ?_
  rintro _ w9 ⟨rfl, he9⟩
  refine ⟨_, rfl, ?_⟩
  have hL := hL.ext he9
  have hb1 := hb1.ext he9
  have he9 := he8.trans he9
  refine heldB hL.sl ha (by omega) ?_
  have ed : s.extract (Int.toNat 12) (12 + lev (((B s).drop 2).take 2)) = ⟨(((B s).drop 12).take (lev (((B s).drop 2).take 2))).toArray⟩ := by
    apply B_inj
    rw [B_extract]
    show ((B s).drop 12).take _ = _
    rw [show Int.toNat 12 = 12 from rfl, Nat.add_sub_cancel_left, B_mk]
    rfl
  rw [ed]
  refine setA (f := frameB (B s)) hb1 rfl rfl ?_
  intro w10 hb1 hx10 _ _
  have he10 := hx10 w he9 hr1'
  refine callW_of (fput_calls w10 ((B s).length : Nat) (f := frameB (B s)) (frameB_gen _)) ?_
  rintro _ w11 ⟨rfl, he11⟩
  refine ⟨(⟨(putR (B s).length (frameB (B s))).1.toArray⟩, (putR (B s).length (frameB (B s))).2, ()), rfl, ?_⟩
  have hb1 := hb1.ext he11
  have he11 := he10.trans he11
  dsimp only
  have bad : putR (B s).length (frameB (B s)) ≠ (B s, 0) → ∀ {w' : World}, Blk w' r1 (fV (frameB (B s))) 49 → Ext w w' →
      (guardW ((#[(.int .u8 (0 : Int)), (.int .u64 (0 : Int)), (.string ByteArray.empty)] : Array Value).size = 3) <| stAW (⟨r1, 0, none⟩ : Addr) [(.int .u8 (0 : Int)), (.int .u64 (0 : Int)), (.string ByteArray.empty)] <| ldAW fLs (⟨r1, 0, none⟩ : Addr) fun (u : Int × Int × ByteArray × Unit) => fun w'' => Value.tuple #[(.agg #[(.int .u8 u.1), (.int .u64 u.2.1), (.string u.2.2.1)]), (.int .i64 4)] = .tuple #[.agg (fV (getR (B s)).1).toArray, .int .i64 (getR (B s)).2] ∧ Ext w w'') w' := fun hne2 {w'} hb he =>
    setA (f := fra0) hb rfl rfl fun w'' _ hx _ _ => ⟨by rw [getR_4' hne hok hfit hne2]; rfl, hx w he hr1'⟩
  refine splitW_i (fun hz => ?_) (fun hz => ?_)
  · have hz := bne_iff_ne.1 hz
    exact bad (fun e => hz (by rw [e])) hb1 he11
  have hz := bne_eq_false_iff_eq.1 hz
  refine splitW_i (fun hq => ?_) (fun hq => ?_)
  · refine bad (fun e => ?_) hb1 he11
    have : ((⟨(putR (B s).length (frameB (B s))).1.toArray⟩ : ByteArray).toList == s.toList) = false := by simpa using hq
    rw [str_beq, B_mk, e] at this
    simp at this
  · have : ((⟨(putR (B s).length (frameB (B s))).1.toArray⟩ : ByteArray).toList == s.toList) = true := by simpa using hq
    rw [str_beq, B_mk] at this
    have hps := of_decide_eq_true this
    exact done he11 hb1 (getR_0 hne hok hfit (Prod.ext hps hz))
theorem fkind_calls (w : World) (s : ByteArray) (hs : s.size ≤ 9223372036854775807) (tag : UInt8) : Calls Try.prog 29 #[.string s, .int .u8 (tag.toNat : Int)] w (Ret fun v w' => v = .tuple #[.agg (fV (kindR (B s) tag).1).toArray, .int .i64 (kindR (B s) tag).2] ∧ Ext w w') := by
  apply calls29
  unfold S29
  refine new_i fun r1 w1 hb1 he1 hr1 _ => ?_
  have hb1 : Blk w1 r1 (fV fra0) 49 := hb1
  refine callW_of (fget_calls w1 s hs) ?_
  rintro _ w2 ⟨rfl, he2⟩
  refine ⟨(fT (getR (B s)).1, (getR (B s)).2, ()), rfl, ?_⟩
  have hb1 := hb1.ext he2
  have he2 := he1.trans he2
  refine boxed (f := (getR (B s)).1) ?_
  intro r3 w3 hb3 he3 hr3
  have hb1 := hb1.ext he3
  have he3 := he2.trans he3
  have h13 : r1 ≠ r3 := by have := hb1.lt; have := he2.size; have : r1 < w2.heap.size := by have h := he1.size; have := (by assumption : Ext w1 w2).size; omega
                           omega
  dsimp only
  have copy : ∀ {w' : World} {e : Int}, Ext w w' → Blk w' r1 (fV fra0) 49 → Blk w' r3 (fV (getR (B s)).1) 49 → kindR (B s) tag = ((getR (B s)).1, e) →
      (ldAW fLs (⟨r3, 0, none⟩ : Addr) fun (u : Int × Int × ByteArray × Unit) => guardW ((#[(.int .u8 u.1), (.int .u64 u.2.1), (.string u.2.2.1)] : Array Value).size = 3) <| stAW (⟨r1, 0, none⟩ : Addr) [(.int .u8 u.1), (.int .u64 u.2.1), (.string u.2.2.1)] <| ldAW fLs (⟨r1, 0, none⟩ : Addr) fun (u : Int × Int × ByteArray × Unit) => fun w'' => Value.tuple #[(.agg #[(.int .u8 u.1), (.int .u64 u.2.1), (.string u.2.2.1)]), (.int .i64 e)] = .tuple #[.agg (fV (kindR (B s) tag).1).toArray, .int .i64 (kindR (B s) tag).2] ∧ Ext w w'') w' := fun {w' e} he hb hb3 hk =>
    boxA (ls := fLs) (fT (getR (B s)).1) hb3 rfl (setA (f := (getR (B s)).1) hb rfl rfl fun w'' _ hx _ _ => ⟨by rw [hk]; rfl, hx w he (by omega)⟩)
  refine splitW_i (fun hz => ?_) (fun hz => ?_)
  · have hz := beq_iff_eq.1 hz
    refine box0 ((getR (B s)).1.1.toNat : Int) hb3 (by rfl) ?_
    refine splitW_i (fun ht => ?_) (fun ht => ?_)
    · have ht := bne_iff_ne.1 ht
      have hk : kindR (B s) tag = (fra0, 11) := by unfold kindR; rw [if_pos ⟨hz, fun e => ht (by rw [e])⟩]
      exact setA (f := fra0) hb1 rfl rfl fun w'' _ hx _ _ => ⟨by rw [hk]; rfl, hx w he3 (by omega)⟩
    · have ht := bne_eq_false_iff_eq.1 ht
      have hk : kindR (B s) tag = ((getR (B s)).1, (getR (B s)).2) := by
        unfold kindR
        rw [if_neg]
        rintro ⟨_, h⟩
        exact h (UInt8.toNat_inj.1 (by omega))
      exact copy he3 hb1 hb3 hk
  · have hz := beq_eq_false_iff_ne.1 hz
    have hk : kindR (B s) tag = ((getR (B s)).1, (getR (B s)).2) := by
      unfold kindR
      rw [if_neg (fun h => hz h.1)]
    exact copy he3 hb1 hb3 hk
theorem rfput_calls (w : World) (size : Int) {f : Fra} (hg : f.2.1 < 18446744073709551616) : Calls Try.prog 18 #[.int .i64 size, .agg (fV f).toArray] w (Ret fun v w' => v = .tuple #[.string ⟨(putR size f).1.toArray⟩, .int .i64 (putR size f).2] ∧ Ext w w') := by
  apply calls18
  unfold S18 putR
  refine new_i fun r1 w1 hb1 he1 hr1 _ => ?_
  refine callW_of (refroom_calls w1 size) ?_
  rintro _ w2 ⟨rfl, he2⟩
  refine ⟨_, rfl, ?_⟩
  have hb1 := hb1.ext he2
  have he2 := he1.trans he2
  have hds := B_size f.2.2
  rcases roomOf_cases size with h0 | ⟨h0, h1, h2, hgeo⟩
  · rw [h0, if_pos rfl]
    exact splitW_t (by rfl) ⟨rfl, he2⟩
  rw [if_neg (by omega)]
  refine splitW_f (by rw [beq_eq_false_iff_ne]; omega) ?_
  refine draw_i fun w3 he3 _ _ => ?_
  have hb1 := hb1.ext he3
  have he3 := he2.trans he3
  refine boxF 2 f.2.2 hb1 (by rfl) ?_
  refine callW_of (refroom_calls w3 size) ?_
  rintro _ w4 ⟨rfl, he4⟩
  refine ⟨_, rfl, ?_⟩
  have hb1 := hb1.ext he4
  have he4 := he3.trans he4
  refine ⟨fun l hl p hp => ?_, ?_⟩
  · simp only [List.mem_singleton] at hl
    subst hl
    simp only [List.mem_singleton] at hp
    subst hp
    rw [add_mk, hb1.cell]
    rfl
  refine splitW_i (fun hlong => ?_) (fun hfit => ?_)
  · have hlong := of_decide_eq_true hlong
    rw [if_pos (by omega)]
    exact ⟨rfl, he4⟩
  have hfit := of_decide_eq_false hfit
  rw [if_neg (by omega)]
  obtain ⟨sz, rfl⟩ : ∃ sz : Nat, size = sz := ⟨size.toNat, by omega⟩
  rw [Int.toNat_natCast]
  refine box0 (f.1.toNat : Int) hb1 (by rfl) ?_
  apply newW_i
  have e0 : #[Value.int .u8 (f.1.toNat : Int), Value.int .u8 0] = (bV [f.1, 0]).toArray := rfl
  rw [e0]
  have ho : Own 5 (w4.alloc (.cells (bV [f.1, 0]).toArray 5)) w4.heap.size (some ⟨w4.heap.size, 0, none⟩) 2 2 (bV [f.1, 0]) := Own.lit (cs := (bV [f.1, 0]).toArray) (Nat.le_refl _) (by simp [bV])
  have he5 := (Ext.refl w4).alloc (.cells (bV [f.1, 0]).toArray 5)
  have hrlt := hb1.lt
  generalize hw5 : w4.alloc (.cells (bV [f.1, 0]).toArray 5) = w5 at ho he5 ⊢
  have hb1 := hb1.ext he5
  have he05 := he4.trans he5
  have hB5 := he5.size
  generalize hB : w4.heap.size = B0 at *
  have hB0 : w.heap.size ≤ B0 := by have := he4.size; omega
  have grow : ∀ {w' w'' : World} {A : Option Addr} {n c : Nat} {vs : List Value} {r' : Option Nat}, Ext w w' → Own 5 w' B0 A n c vs → Grew w' w'' (orow A) r' → Ext w w'' := fun he ho hg => he.grown hg.grown (fun j hj => Nat.le_trans hB0 (ho.row' j hj))
  have keep : ∀ {w' w'' : World} {A : Option Addr} {n c : Nat} {vs cs : List Value} {t : TypeId} {r' : Option Nat}, Blk w' r1 cs t → Own 5 w' B0 A n c vs → Grew w' w'' (orow A) r' → Blk w'' r1 cs t := fun hb ho hg => hb.grown hg.grown (fun e => by have := ho.row' r1 e.symm; omega)
  refine boxF 2 f.2.2 hb1 (by rfl) ?_
  rw [hds, wrap_u64_nat (by omega)]
  refine callW_of (put_calls (k := 2) ho hB5 (by omega) (by omega) (by omega) (by omega)) ?_
  rintro _ w6 ⟨⟨A6, n6, c6⟩, rfl, ho6, hg6⟩
  refine ⟨(A6, n6, c6), rfl, ?_⟩
  dsimp only at ho6 ⊢
  have he6 := grow he05 ho hg6
  have hb1 := keep hb1 ho hg6
  have hB6 := Nat.le_trans hB5 hg6.grown.size
  have l6 := ho6.sl.blen
  simp only [List.length_append, le_length, List.length_cons, List.length_nil] at l6
  refine boxF 1 (f.2.1 : Int) hb1 (by rfl) ?_
  refine callW_of (put_calls (k := 8) ho6 hB6 (by omega) hg (by omega) (by omega)) ?_
  rintro _ w7 ⟨⟨A7, n7, c7⟩, rfl, ho7, hg7⟩
  refine ⟨(A7, n7, c7), rfl, ?_⟩
  dsimp only at ho7 ⊢
  have he7 := grow he6 ho6 hg7
  have hb1 := keep hb1 ho6 hg7
  have hB7 := Nat.le_trans hB6 hg7.grown.size
  have eh : [f.1, 0] ++ le 2 (B f.2.2).length ++ le 8 f.2.1 = headB f := rfl
  rw [eh] at ho7
  have l7 := ho7.sl.blen
  rw [headB_length] at l7
  subst l7
  refine boxF 2 f.2.2 hb1 (by rfl) ?_
  refine append_str elem_u8 (by kernel_rfl) ho7 hB7 (by omega) ?_
  intro A8 c8 w8 ho8 hg8
  have he8 := grow he7 ho7 hg8
  have hB8 := Nat.le_trans hB7 hg8.grown.size
  dsimp only
  have e8 : IntKind.wrap .i64 (IntKind.wrap .i64 ((sz : Int) - 4) - ((12 + f.2.2.size : Nat) : Int)) = ((sz - 16 - (B f.2.2).length : Nat) : Int) := by
    rw [wrap_i64 (x := (sz : Int) - 4) (by omega) (by omega), wrap_i64 (by omega) (by omega)]
    omega
  rw [e8]
  refine append_zeros (kn := .i64) elem_u8 (by kernel_rfl) ho8 hB8 (by omega) (by omega) ?_
  intro A9 c9 w9 ho9 hg9
  have he9 := grow he8 ho8 hg9
  have hB9 := Nat.le_trans hB8 hg9.grown.size
  dsimp only
  have e9 : headB f ++ B f.2.2 ++ List.replicate (sz - 16 - (B f.2.2).length) 0 = bodyB sz f := rfl
  rw [e9] at ho9
  refine callW_of (rcrc_calls ho9.sl) ?_
  rintro _ w10 ⟨rfl, he10⟩
  refine ⟨_, rfl, ?_⟩
  have ho10 := ho9.ext he10
  have hB10 := Nat.le_trans hB9 he10.size
  have he10 := he9.trans he10
  have hclt := (crc (bodyB sz f)).isLt
  rw [wrap_u64_nat (by omega)]
  refine callW_of (put_calls (k := 4) ho10 hB10 (by omega) (by omega) (by omega) (by omega)) ?_
  rintro _ w11 ⟨⟨A11, n11, c11⟩, rfl, ho11, hg11⟩
  refine ⟨(A11, n11, c11), rfl, ?_⟩
  have he11 := grow he10 ho10 hg11
  refine conv_str (e := 5) (by kernel_rfl) (by kernel_rfl) (by kernel_rfl) ho11.sl ?_
  exact ⟨rfl, he11⟩
theorem rfget_calls (w : World) (s : ByteArray) (hs : s.size ≤ 9223372036854775807) : Calls Try.prog 51 #[.string s] w (Ret fun v w' => v = .tuple #[.agg (fV (getR (B s)).1).toArray, .int .i64 (getR (B s)).2] ∧ Ext w w') := by
  apply calls51
  unfold S51
  have hsz := B_size s
  refine new_i fun r1 w1 hb1 he1 hr1 _ => ?_
  have hb1 : Blk w1 r1 (fV fra0) 49 := hb1
  refine callW_of (refroom_calls w1 (s.size : Nat)) ?_
  rintro _ w2 ⟨rfl, he2⟩
  refine ⟨_, rfl, ?_⟩
  have hb1 := hb1.ext he2
  have hr12 : r1 < w2.heap.size := hb1.lt
  have he2 := he1.trans he2
  have hr1' : w.heap.size ≤ r1 := by omega
  have done : ∀ {w' : World} {g : Fra} {e : Int}, Ext w w' → Blk w' r1 (fV g) 49 → getR (B s) = (fra0, e) →
      (guardW ((#[(.int .u8 (0 : Int)), (.int .u64 (0 : Int)), (.string ByteArray.empty)] : Array Value).size = 3) <| stAW (⟨r1, 0, none⟩ : Addr) [(.int .u8 (0 : Int)), (.int .u64 (0 : Int)), (.string ByteArray.empty)] <| ldAW fLs (⟨r1, 0, none⟩ : Addr) fun (u : Int × Int × ByteArray × Unit) => fun w'' => Value.tuple #[(.agg #[(.int .u8 u.1), (.int .u64 u.2.1), (.string u.2.2.1)]), (.int .i64 e)] = .tuple #[.agg (fV (getR (B s)).1).toArray, .int .i64 (getR (B s)).2] ∧ Ext w w'') w' := fun {w' g e} he hb hg =>
    setA (f := fra0) hb rfl rfl fun w'' _ hx _ _ => ⟨by rw [hg]; rfl, hx w he hr1'⟩
  rw [hsz] at hs ⊢
  rcases roomOf_cases (B s).length with h0 | ⟨h0, h1, h2, hgeo⟩
  · rw [h0]
    exact splitW_t (by rfl) (done he2 hb1 (getR_2 h0))
  refine splitW_f (by rw [beq_eq_false_iff_ne]; omega) ?_
  have hne : roomOf (B s).length ≠ 0 := by omega
  refine conv_bytes (u := .string) (e := 5) (by kernel_rfl) (by kernel_rfl) (by kernel_rfl) (by omega) ?_
  intro c w3 hsl he3 hs3 hc
  have hL : Looks w3 (some ⟨w2.heap.size, 0, none⟩) s.size c (B s) := ⟨hsl, hc, by omega⟩
  rw [hsz] at hL
  have hb1 := hb1.ext he3
  have he3 := he2.trans he3
  refine draw_i fun w4 he4 _ _ => ?_
  have hL := hL.ext he4
  have hb1 := hb1.ext he4
  have he4 := he3.trans he4
  dsimp only
  rw [hsz]
  generalize hA : (some (⟨w2.heap.size, 0, none⟩ : Addr)) = A at hL ⊢
  rw [wrap_i64 (x := ((B s).length : Int) - 4) (by omega) (by omega), show Int.toNat (((B s).length : Int) - 4) = (B s).length - 4 by omega]
  refine guard_i ⟨by omega, by omega⟩ (guard_i ⟨by omega, by omega⟩ ?_)
  refine callW_of (rcrc_calls hL.body) ?_
  rintro _ w5 ⟨rfl, he5⟩
  refine ⟨_, rfl, ?_⟩
  have hL := hL.ext he5
  have hb1 := hb1.ext he5
  have he5 := he4.trans he5
  refine callW_of (refof_calls hL.tail (by omega)) ?_
  rintro _ w5 ⟨rfl, hw⟩
  subst hw
  refine ⟨_, rfl, ?_⟩
  have hclt := (crc ((B s).take ((B s).length - 4))).isLt
  rw [wrap_u64_nat (by omega)]
  refine splitW_i (fun hbad => ?_) (fun hok => ?_)
  · have hbad := bne_iff_ne.1 hbad
    exact done he5 hb1 (getR_10 hne (fun e => hbad (by rw [e])))
  have hok : (crc ((B s).take ((B s).length - 4))).toNat = lev ((B s).drop ((B s).length - 4)) := by have := bne_eq_false_iff_eq.1 hok; omega
  refine guard_i ⟨by omega, by omega, by omega⟩ ?_
  have hp2 := hL.part (l := 2) (k := 2) (by omega) (by omega)
  refine callW_of (refof_calls (c := c - Int.toNat 2) hp2 (by omega)) ?_
  rintro _ w5 ⟨rfl, hw⟩
  subst hw
  refine ⟨_, rfl, ?_⟩
  refine callW_of (refroom_calls w5 ((B s).length : Nat)) ?_
  rintro _ w7 ⟨rfl, he7⟩
  refine ⟨_, rfl, ?_⟩
  have hL := hL.ext he7
  have hb1 := hb1.ext he7
  have he7 := he5.trans he7
  have hk := lev_lt4 (bs := ((B s).drop 2).take 2) (by simp; omega)
  rw [wrap_i64 (x := (lev (((B s).drop 2).take 2) : Int)) (by omega) (by omega)]
  refine splitW_i (fun hbig => ?_) (fun hfit => ?_)
  · exact done he7 hb1 (getR_4 hne hok (of_decide_eq_true hbig))
  have hfit := of_decide_eq_false hfit
  refine draw_i fun w8 he8 _ _ => ?_
  have hL := hL.ext he8
  have hb1 := hb1.ext he8
  have he8 := he7.trans he8
  refine guard_i ⟨by omega, by omega⟩ ?_
  obtain ⟨a, ha, hcell⟩ := hL.sl.2.2 (by omega)
  refine ⟨a, ha, ?_⟩
  have h00 : w8.cell? (a.add (Int.toNat (0 : Int) * 1)) = some (.int .u8 (((B s).getD 0 0).toNat : Int)) := hcell 0 _ (by simp [bV, show 0 < (B s).length by omega])
  refine ld_i (l := .int .u8) (x := (((B s).getD 0 0).toNat : Int)) h00 ?_
  rw [wrap_i64 (x := (12 : Int) + _) (by omega) (by omega), show Int.toNat ((12 : Int) + (lev (((B s).drop 2).take 2) : Int)) = 12 + lev (((B s).drop 2).take 2) by omega]
  refine guard_i ⟨by omega, by omega, by have := hL.nc; omega⟩ (guard_i ⟨by omega, by omega, by omega⟩ ?_)
  have ed : s.extract (Int.toNat 12) (12 + lev (((B s).drop 2).take 2)) = ⟨(((B s).drop 12).take (lev (((B s).drop 2).take 2))).toArray⟩ := by
    apply B_inj
    rw [B_extract]
    show ((B s).drop 12).take _ = _
    rw [show Int.toNat 12 = 12 from rfl, Nat.add_sub_cancel_left, B_mk]
    rfl
  rw [ed]
  have tail : ∀ {w9 : World} {r14 : Nat} {cs : List Value}, Ext w w9 → Blk w9 r1 (fV fra0) 49 → Blk w9 r14 cs 49 → cs.length = 3 → w.heap.size ≤ r14 → r14 ≠ r1 →
      (guardW ((#[(.int .u8 (((B s).getD 0 0).toNat : Int)), (.int .u64 (lev (((B s).drop 4).take 8) : Int)), (.string ⟨(((B s).drop 12).take (lev (((B s).drop 2).take 2))).toArray⟩)] : Array Value).size = 3) <|
      stAW (⟨r14, 0, none⟩ : Addr) [(.int .u8 (((B s).getD 0 0).toNat : Int)), (.int .u64 (lev (((B s).drop 4).take 8) : Int)), (.string ⟨(((B s).drop 12).take (lev (((B s).drop 2).take 2))).toArray⟩)] <|
      ldAW fLs (⟨r14, 0, none⟩ : Addr) fun (u15 : (Int × Int × ByteArray × Unit)) =>
      callW Try.prog 18 [(.int .i64 (((B s).length : Nat) : Int)), (.agg #[(.int .u8 u15.1), (.int .u64 u15.2.1), (.string u15.2.2.1)])] (.many [(.one .str), (.one (.int .i64))]) fun (u16 : ByteArray × Int × Unit) =>
      splitW (u16.2.1 != (0 : Int)) (guardW ((#[(.int .u8 (0 : Int)), (.int .u64 (0 : Int)), (.string ByteArray.empty)] : Array Value).size = 3) <|
      stAW (⟨r1, 0, none⟩ : Addr) [(.int .u8 (0 : Int)), (.int .u64 (0 : Int)), (.string ByteArray.empty)] <|
      ldAW fLs (⟨r1, 0, none⟩ : Addr) fun (u17 : (Int × Int × ByteArray × Unit)) => fun w'' => Value.tuple #[(.agg #[(.int .u8 u17.1), (.int .u64 u17.2.1), (.string u17.2.2.1)]), (.int .i64 (4 : Int))] = .tuple #[.agg (fV (getR (B s)).1).toArray, .int .i64 (getR (B s)).2] ∧ Ext w w'') <|
      splitW (!(u16.1.toList == s.toList)) (guardW ((#[(.int .u8 (0 : Int)), (.int .u64 (0 : Int)), (.string ByteArray.empty)] : Array Value).size = 3) <|
      stAW (⟨r1, 0, none⟩ : Addr) [(.int .u8 (0 : Int)), (.int .u64 (0 : Int)), (.string ByteArray.empty)] <|
      ldAW fLs (⟨r1, 0, none⟩ : Addr) fun (u18 : (Int × Int × ByteArray × Unit)) => fun w'' => Value.tuple #[(.agg #[(.int .u8 u18.1), (.int .u64 u18.2.1), (.string u18.2.2.1)]), (.int .i64 (4 : Int))] = .tuple #[.agg (fV (getR (B s)).1).toArray, .int .i64 (getR (B s)).2] ∧ Ext w w'') <|
      ldAW fLs (⟨r14, 0, none⟩ : Addr) fun (u19 : (Int × Int × ByteArray × Unit)) =>
      guardW ((#[(.int .u8 u19.1), (.int .u64 u19.2.1), (.string u19.2.2.1)] : Array Value).size = 3) <|
      stAW (⟨r1, 0, none⟩ : Addr) [(.int .u8 u19.1), (.int .u64 u19.2.1), (.string u19.2.2.1)] <|
      ldAW fLs (⟨r1, 0, none⟩ : Addr) fun (u20 : (Int × Int × ByteArray × Unit)) => fun w'' => Value.tuple #[(.agg #[(.int .u8 u20.1), (.int .u64 u20.2.1), (.string u20.2.2.1)]), (.int .i64 (0 : Int))] = .tuple #[.agg (fV (getR (B s)).1).toArray, .int .i64 (getR (B s)).2] ∧ Ext w w'') w9 := by
    intro w9 r14 cs he hb1 hb14 hcs hr14 hr14ne
    refine setA (f := frameB (B s)) hb14 hcs rfl ?_
    intro w10 hb14 hx10 hk10 hz10
    have he10 := hx10 w he hr14
    have hb1 : Blk w10 r1 (fV fra0) 49 := (hk10 r1 (fun e => hr14ne e.symm)).trans hb1
    refine callW_of (rfput_calls w10 ((B s).length : Nat) (f := frameB (B s)) (frameB_gen _)) ?_
    rintro _ w11 ⟨rfl, he11⟩
    refine ⟨(⟨(putR (B s).length (frameB (B s))).1.toArray⟩, (putR (B s).length (frameB (B s))).2, ()), rfl, ?_⟩
    have hb1 := hb1.ext he11
    have hb14 := hb14.ext he11
    have he11 := he10.trans he11
    dsimp only
    refine splitW_i (fun hz => ?_) (fun hz => ?_)
    · have hz := bne_iff_ne.1 hz
      exact done he11 hb1 (getR_4' hne hok hfit (fun e => hz (by rw [e])))
    have hz := bne_eq_false_iff_eq.1 hz
    refine splitW_i (fun hq => ?_) (fun hq => ?_)
    · refine done he11 hb1 (getR_4' hne hok hfit (fun e => ?_))
      have : ((⟨(putR (B s).length (frameB (B s))).1.toArray⟩ : ByteArray).toList == s.toList) = false := by simpa using hq
      rw [str_beq, B_mk, e] at this
      simp at this
    · have : ((⟨(putR (B s).length (frameB (B s))).1.toArray⟩ : ByteArray).toList == s.toList) = true := by simpa using hq
      rw [str_beq, B_mk] at this
      have hps := of_decide_eq_true this
      refine boxA (ls := fLs) (fT (frameB (B s))) hb14 rfl (setA (f := frameB (B s)) hb1 rfl rfl fun w'' _ hx _ _ => ⟨?_, hx w he11 hr1'⟩)
      rw [getR_0 hne hok hfit (Prod.ext hps hz)]
      rfl
  have hp4 := hL.part (l := 4) (k := 8) (by omega) (by omega)
  refine ⟨?_, ?_⟩
  · refine callW_of (refof_calls (c := c - Int.toNat 4) hp4 (by omega)) ?_
    rintro _ w8 ⟨rfl, hw⟩
    subst hw
    refine ⟨_, rfl, ?_⟩
    refine heldB hL.sl ha (by omega) ?_
    refine new_i fun r14 w9 hb14 he9 hr14 _ => ?_
    refine heldB (hL.ext he9).sl ha (by omega) ?_
    have := hb1.lt
    exact tail (he8.trans he9) (hb1.ext he9) hb14 rfl (by have := he8.size; omega) (by omega)
  · refine new_i fun r14 w9 hb14 he9 hr14 _ => ?_
    refine heldB (hL.ext he9).sl ha (by omega) ?_
    refine callW_of (refof_calls (c := c - Int.toNat 4) (hp4.ext he9) (by omega)) ?_
    rintro _ w9 ⟨rfl, hw⟩
    subst hw
    refine ⟨_, rfl, ?_⟩
    refine heldB (hL.ext he9).sl ha (by omega) ?_
    have := hb1.lt
    exact tail (he8.trans he9) (hb1.ext he9) hb14 rfl (by have := he8.size; omega) (by omega)
theorem rfkind_calls (w : World) (s : ByteArray) (hs : s.size ≤ 9223372036854775807) (tag : UInt8) : Calls Try.prog 40 #[.string s, .int .u8 (tag.toNat : Int)] w (Ret fun v w' => v = .tuple #[.agg (fV (kindR (B s) tag).1).toArray, .int .i64 (kindR (B s) tag).2] ∧ Ext w w') := by
  apply calls40
  unfold S40
  refine new_i fun r1 w1 hb1 he1 hr1 _ => ?_
  have hb1 : Blk w1 r1 (fV fra0) 49 := hb1
  refine callW_of (rfget_calls w1 s hs) ?_
  rintro _ w2 ⟨rfl, he2⟩
  refine ⟨(fT (getR (B s)).1, (getR (B s)).2, ()), rfl, ?_⟩
  have hb1 := hb1.ext he2
  have he2 := he1.trans he2
  refine boxed (f := (getR (B s)).1) ?_
  intro r3 w3 hb3 he3 hr3
  have hb1 := hb1.ext he3
  have he3 := he2.trans he3
  have h13 : r1 ≠ r3 := by have := hb1.lt; have := he2.size; have : r1 < w2.heap.size := by have h := he1.size; have := (by assumption : Ext w1 w2).size; omega
                           omega
  dsimp only
  have copy : ∀ {w' : World} {e : Int}, Ext w w' → Blk w' r1 (fV fra0) 49 → Blk w' r3 (fV (getR (B s)).1) 49 → kindR (B s) tag = ((getR (B s)).1, e) →
      (ldAW fLs (⟨r3, 0, none⟩ : Addr) fun (u : Int × Int × ByteArray × Unit) => guardW ((#[(.int .u8 u.1), (.int .u64 u.2.1), (.string u.2.2.1)] : Array Value).size = 3) <| stAW (⟨r1, 0, none⟩ : Addr) [(.int .u8 u.1), (.int .u64 u.2.1), (.string u.2.2.1)] <| ldAW fLs (⟨r1, 0, none⟩ : Addr) fun (u : Int × Int × ByteArray × Unit) => fun w'' => Value.tuple #[(.agg #[(.int .u8 u.1), (.int .u64 u.2.1), (.string u.2.2.1)]), (.int .i64 e)] = .tuple #[.agg (fV (kindR (B s) tag).1).toArray, .int .i64 (kindR (B s) tag).2] ∧ Ext w w'') w' := fun {w' e} he hb hb3 hk =>
    boxA (ls := fLs) (fT (getR (B s)).1) hb3 rfl (setA (f := (getR (B s)).1) hb rfl rfl fun w'' _ hx _ _ => ⟨by rw [hk]; rfl, hx w he (by omega)⟩)
  refine splitW_i (fun hz => ?_) (fun hz => ?_)
  · have hz := beq_iff_eq.1 hz
    refine box0 ((getR (B s)).1.1.toNat : Int) hb3 (by rfl) ?_
    refine splitW_i (fun ht => ?_) (fun ht => ?_)
    · have ht := bne_iff_ne.1 ht
      have hk : kindR (B s) tag = (fra0, 11) := by unfold kindR; rw [if_pos ⟨hz, fun e => ht (by rw [e])⟩]
      exact setA (f := fra0) hb1 rfl rfl fun w'' _ hx _ _ => ⟨by rw [hk]; rfl, hx w he3 (by omega)⟩
    · have ht := bne_eq_false_iff_eq.1 ht
      have hk : kindR (B s) tag = ((getR (B s)).1, (getR (B s)).2) := by
        unfold kindR
        rw [if_neg]
        rintro ⟨_, h⟩
        exact h (UInt8.toNat_inj.1 (by omega))
      exact copy he3 hb1 hb3 hk
  · have hz := beq_eq_false_iff_ne.1 hz
    have hk : kindR (B s) tag = ((getR (B s)).1, (getR (B s)).2) := by
      unfold kindR
      rw [if_neg (fun h => hz h.1)]
    exact copy he3 hb1 hb3 hk
end Go.Proofs.Ytiiemgndnpflbaa.V
