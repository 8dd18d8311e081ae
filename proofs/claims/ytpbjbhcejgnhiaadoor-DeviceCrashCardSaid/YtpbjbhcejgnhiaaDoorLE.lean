/- Law DeviceCrash. -/
import Derived.Test.YtpbjbhcejgnhiaaDoorLC
set_option linter.unusedVariables false
set_option linter.unusedSimpArgs false
namespace Go.Proofs.YtpbjbhcejgnhiaaDoor.V
open Go Go.Proofs Go.RowKit Crc

def matchP (pen : List (Int × ByteArray)) (K j : Nat) (s : List UInt8) (p : Int × Nat) : Prop := (pen.getD p.1.toNat w00).1 = K ∧ p.2.testBit j = true ∧ s = sect (B (pen.getD p.1.toNat w00).2) j
theorem crash_law {w : World} (hT : DeB w) {size blocks : Int} (hs : I64 size) (hbk : I64 blocks) {A : Option Addr} {n c : Nat} {acts : List ActV} (ha : Sli actE w A n acts) (hq : ∀ a ∈ acts, actQ w a)
    {A2 : Option Addr} {n2 c2 : Nat} {ps : List (Int × Nat)} (hp : Sli pickE w A2 n2 ps) (hpq : ∀ p ∈ ps, p.2 < 18446744073709551616) :
    Calls Tryd.prog 4 #[.agg #[.int .i64 size, .int .i64 blocks], .slice A n c, .slice A2 n2 c2] w (Ret fun v w' => v = .bool true ∧ Ext w w') := by
  apply calls4
  unfold S4
  refine new_i fun r1 w1 hb1 he1 hr1 hz1 => ?_
  have hb1 : Blk w1 r1 [.int .i64 size, .int .i64 blocks] 23 := hb1
  refine callW_of (lives_calls (hT.ext he1)) ?_
  rintro _ w2 ⟨rfl, he2⟩
  refine ⟨_, rfl, splitW_f (by rfl) ?_⟩
  have hb2 := hb1.ext he2
  have hx2 := he1.trans he2
  refine boxA (ls := [.int .i64, .int .i64]) (size, blocks, ()) hb2 rfl ?_
  refine callW_of (dnew_calls w2 size blocks) ?_
  rintro v3 w3 h3
  have hx23 : Ext w2 w3 := by
    rcases h3 with ⟨_, b, _, F, _, _, h⟩ | ⟨_, _, h⟩
    · exact h
    · exact h
  have hb3 := hb2.ext hx23
  have hx3 := hx2.trans hx23
  have hlight := fun w => lightgeo_calls w size blocks
  rcases h3 with ⟨hok, b, rfl, hN⟩ | ⟨hok, rfl, _⟩
  rotate_left
  · refine ⟨(none, 2, ()), rfl, ?_⟩
    refine boxA (ls := [.int .i64, .int .i64]) (size, blocks, ()) hb3 rfl ?_
    refine callW_of (hlight w3) ?_
    rintro _ w4 ⟨rfl, he4⟩
    have hx4 := hx3.trans he4
    refine ⟨_, rfl, splitW_i (fun _ => ⟨rfl, hx4⟩) (fun _ => splitW_i (fun _ => ⟨rfl, hx4⟩) (fun _ => splitW_i (fun _ => ⟨rfl, hx4⟩) (fun _ => splitW_t (by rfl) ⟨rfl, hx4⟩)))⟩
  refine ⟨(some ⟨b, 0, none⟩, 0, ()), rfl, ?_⟩
  refine boxA (ls := [.int .i64, .int .i64]) (size, blocks, ()) hb3 rfl ?_
  refine callW_of (hlight w3) ?_
  rintro _ w4 ⟨rfl, he4⟩
  have hx4 := hx3.trans he4
  have hb4 := hb3.ext he4
  replace hN : DevNew w2 (dev0 size blocks) b w4 := hN.ext he4
  refine ⟨_, rfl, splitW_i (fun _ => ⟨rfl, hx4⟩) (fun hl => splitW_i (fun _ => ⟨rfl, hx4⟩) (fun hn => splitW_i (fun _ => ⟨rfl, hx4⟩) (fun hn2 => splitW_f (by rfl) ?_)))⟩
  have hn := of_decide_eq_false hn
  have hn2 := of_decide_eq_false hn2
  have hg := geo_dims hok
  obtain ⟨N, rfl⟩ : ∃ N : Nat, blocks = N := ⟨blocks.toNat, by omega⟩
  obtain ⟨z, rfl⟩ : ∃ z : Nat, size = z := ⟨size.toNat, by omega⟩
  have hact : ∀ {w' : World} {i : Nat}, Ext w2 w' → i < n → ∃ p, A = some p ∧ (p.add (i * 6)).spot = none ∧ CellsAt w' (p.add (i * 6)) 0 (actE.f (acts.getD i a00)) ∧ actQ w (acts.getD i a00) := fun he hi => by
    obtain ⟨p, e1, e2, e3, e4⟩ := act_at ha hi
    exact ⟨p, e1, e2, cellsAt_ext (hx2.trans he) e3, hq _ e4⟩
  refine loopW_i (fun y w' => ∃ (i : Nat) (D : Dev), i ≤ n ∧ y = ((i : Int), ()) ∧ DevNew w2 D b w' ∧ D.size = z ∧ D.blocks = N ∧ D.pen.length ≤ i) (fun y => (n - y.1).toNat) ⟨0, _, by omega, rfl, hN, rfl, rfl, Nat.le_refl _⟩ ?_
  clear hN
  rintro _ w6 ⟨i, D, hi, rfl, hN, hDs, hDb, hDp⟩
  dsimp only
  by_cases hlt : i < n
  · refine splitW_t (decide_eq_true (by omega)) ?_
    refine draw_i fun w7 he7 _ _ => ?_
    obtain ⟨F, hD, hlo, hx⟩ := hN.ext he7
    obtain ⟨p, ep, hps, hpc, hk0, hk1, hk3, _⟩ := hact hx hlt
    subst ep
    generalize acts.getD i a00 = act at hpc hk0 hk1 hk3
    refine guard_i (by omega) (ptr_i ?_)
    rw [Int.toNat_natCast]
    refine ld_i (l := .int .i64) (x := act.2.1) (act_f hps hpc 1 rfl) ?_
    refine boxF 1 (N : Int) (hb2.ext hx) (by rfl) (guard_i (by omega) (ptr_i ?_))
    refine ldA_i (ls := [.int .i64, .int .i64, .int .u8, .int .i64, .int .u32, .slc]) (x := (act.1, act.2.1, (act.2.2.1.toNat : Int), act.2.2.2.1, (act.2.2.2.2.1.toNat : Int), act.2.2.2.2.2, ())) hpc ?_
    refine box0 (z : Int) (hb2.ext hx) (by rfl) ?_
    refine callW_of (pick_calls w7 hk1.1 hk1.2 (by omega)) ?_
    rintro _ w8 ⟨rfl, hw⟩
    obtain rfl : w7 = w8 := hw.symm
    refine ⟨_, rfl, h2_i (held1Z (hb2.ext hx) (by rfl)) (hl_cells hpc) ?_⟩
    refine callW_of (bytes_calls act hk3 (size := (z : Int)) (by omega) (by omega)) ?_
    rintro _ w9 ⟨rfl, he9⟩
    refine ⟨_, rfl, ?_⟩
    refine callW_of (write_calls (hD.ext he9) (pick act.2.1 N) (actB act z) (by omega)) ?_
    rintro _ w10 ⟨rfl, hst⟩
    refine ⟨_, rfl, ?_⟩
    have hN10 := DevNew.step hlo (hx.trans he9) hst
    have hdm := write_dims D (pick act.2.1 N) (actB act z)
    have hwz := wsz (d := D) (pick act.2.1 N) (actB act z)
    generalize (D.write (pick act.2.1 N) (actB act z)).1 = D' at hN10 hdm hwz
    rw [hDs, hDb] at hdm
    have ew : IntKind.wrap .i64 ((i : Int) + 1) = ((i + 1 : Nat) : Int) := by rw [wrap_i64 (by omega) (by omega)]; rfl
    rw [ew]
    refine splitW_i (fun _ => ?_) (fun _ => ⟨⟨i + 1, D', hlt, rfl, hN10, hdm.1, hdm.2, by omega⟩, by omega⟩)
    obtain ⟨F, hD, hlo, hx⟩ := hN10
    refine callW_of (flush_calls hD) ?_
    rintro _ w11 ⟨rfl, hst⟩
    have hfd := flush_dims D'
    exact ⟨_, rfl, ⟨i + 1, _, hlt, rfl, DevNew.step hlo hx hst, hfd.1.trans hdm.1, hfd.2.1.trans hdm.2, by omega⟩, by omega⟩
  obtain rfl : i = n := by omega
  refine splitW_f (decide_eq_false (by omega)) ?_
  obtain ⟨F, hD, hlo, hx⟩ := hN
  have hDok := hD.ok
  have hdim := hDok.dims
  refine callW_of (pending_calls hD (by omega)) ?_
  rintro _ w7 ⟨Aw, cw, rfl, how, he7⟩
  refine ⟨(Aw, D.pen.length, cw), rfl, ?_⟩
  refine callW_of (image_calls (hD.ext he7)) ?_
  rintro _ w8 ⟨rfl, he8⟩
  refine ⟨_, rfl, ?_⟩
  replace hD := (hD.ext he7).ext he8
  replace hx := (hx.trans he7).trans he8
  have hsw := (how.ext he8).sl
  refine callW_of (crash_calls hD (hp.ext (hx2.trans hx)) hpq (by omega) (by omega) (hT.ext (hx2.trans hx))) ?_
  rintro _ w9 (⟨hpk, c', rfl, hN9⟩ | ⟨hno, rfl, he9⟩)
  rotate_left
  · refine ⟨(none, 2, ()), rfl, splitW_t (by rfl) (splitW_t (by rfl) ?_)⟩
    refine callW_of (image_calls (hD.ext he9)) ?_
    rintro _ w10 ⟨rfl, he10⟩
    exact ⟨_, rfl, by rw [str_beq, decide_eq_true rfl], ((hx2.trans hx).trans he9).trans he10⟩
  refine ⟨(some ⟨c', 0, none⟩, 0, ()), rfl, splitW_f (by rfl) ?_⟩
  obtain ⟨G, hC, _, he89⟩ := hN9
  have hCok := hC.ok
  have hCl := hDok.crashed ps
  have hnow := hCl.image
  have hwas := hDok.image
  have hz64 : z = z / 64 * 64 := by omega
  generalize hsecs : z / 64 = sc at hz64
  have hsc2 : 2 ≤ sc := by omega
  have hnow' : (D.crashed ps).image.length = N * z := by rw [hnow]; show D.blocks.toNat * D.size.toNat = _; rw [hDs, hDb, Int.toNat_natCast, Int.toNat_natCast]
  have hwas' : D.image.length = N * z := by rw [hwas, hDs, hDb, Int.toNat_natCast, Int.toNat_natCast]
  have hNz : N * z ≤ 16777216 := Nat.le_trans (Nat.mul_le_mul (show N ≤ 4096 by omega) (show z ≤ 4096 by omega)) (by decide)
  refine callW_of (image_calls hC) ?_
  rintro _ w10 ⟨rfl, he10⟩
  refine ⟨_, rfl, ?_⟩
  have hx10 := (hx.trans he89).trans he10
  refine box0 (z : Int) (hb2.ext hx10) (by rfl) (boxF 1 (N : Int) (hb2.ext hx10) (by rfl) ?_)
  have ew : IntKind.wrap .i64 ((z : Int) * (N : Int)) = ((N * z : Nat) : Int) := by
    rw [show (z : Int) * (N : Int) = ((N * z : Nat) : Int) by rw [Int.natCast_mul, Int.mul_comm], wrap_i64 (by omega) (by omega)]
  rw [ew, mkB_size, mkB_size, hnow', hwas']
  refine splitW_f (bne_eq_false_iff_eq.2 rfl) (splitW_f (bne_eq_false_iff_eq.2 rfl) ?_)
  refine callW_of (image_calls ((hD.ext he89).ext he10)) ?_
  rintro _ w11 ⟨rfl, he11⟩
  refine ⟨_, rfl, splitW_f (by rw [str_beq, decide_eq_true rfl]; rfl) ?_⟩
  refine callW_of (pending_calls ((hC.ext he10).ext he11) (Nat.zero_le _)) ?_
  rintro _ w12 ⟨Ac, cc, rfl, _, he12⟩
  refine ⟨(Ac, 0, cc), rfl, splitW_f (by rfl) ?_⟩
  have hx12 := (hx10.trans he11).trans he12
  have he812 := ((he89.trans he10).trans he11).trans he12
  have hl64 : ∀ (im : List UInt8) (t : Nat), im.length = N * z → t * 64 + 64 ≤ N * z → B ((mkB im).extract (t * 64) (t * 64 + 64)) = (im.drop (t * 64)).take 64 := fun im t h1 h2 => by
    rw [B_extract, B_mkB, Nat.add_sub_cancel_left]
  have hNsc : N * z = N * sc * 64 := by rw [hz64, Nat.mul_assoc]
  refine loopW_i (fun y w' => ∃ t : Nat, t ≤ N * sc ∧ y = (((t * 64 : Nat) : Int), ()) ∧ Ext w12 w') (fun y => ((N * z : Nat) - y.1).toNat) ⟨0, by omega, by simp, Ext.refl _⟩ ?_
  rintro _ w13 ⟨t, ht, rfl, he13⟩
  dsimp only
  by_cases htl : t < N * sc
  rotate_left
  · obtain rfl : t = N * sc := by omega
    exact splitW_f (decide_eq_false (by omega)) ⟨rfl, (hx2.trans hx12).trans he13⟩
  refine splitW_t (decide_eq_true (by omega)) ?_
  have e64 : IntKind.wrap .i64 (((t * 64 : Nat) : Int) + 64) = ((t * 64 + 64 : Nat) : Int) := by rw [wrap_i64 (by omega) (by omega)]; rfl
  rw [e64]
  simp only [Int.toNat_natCast]
  refine guard_i ⟨by omega, by omega, by omega⟩ (guard_i ⟨by omega, by omega, by omega⟩ ?_)
  have next : ∀ w', Ext w12 w' → (∃ t' : Nat, t' ≤ N * sc ∧ (((t * 64 + 64 : Nat) : Int), ()) = (((t' * 64 : Nat) : Int), ()) ∧ Ext w12 w') ∧ (((N * z : Nat) : Int) - ((t * 64 + 64 : Nat) : Int)).toNat < (((N * z : Nat) : Int) - ((t * 64 : Nat) : Int)).toNat := fun w' h =>
    ⟨⟨t + 1, htl, by rw [Nat.add_mul], h⟩, by omega⟩
  -- which block, which sector
  obtain ⟨K, j, hK, hj, hKj⟩ : ∃ K j : Nat, K < N ∧ j < sc ∧ t * 64 = K * z + j * 64 := by
    refine ⟨t / sc, t % sc, Nat.div_lt_of_lt_mul (by rw [Nat.mul_comm]; exact htl), Nat.mod_lt _ (by omega), ?_⟩
    have h1 := Nat.div_add_mod t sc
    have h2 : t / sc * z = sc * (t / sc) * 64 := by rw [Nat.mul_comm sc, Nat.mul_assoc, ← hz64]
    omega
  have hjz : j * 64 + 64 ≤ z := by
    have : (j + 1) * 64 ≤ sc * 64 := Nat.mul_le_mul_right _ hj
    omega
  have hold := image_sect (z := z) D.dur K j (fun s hs => by have := hDok.each s hs; omega) (by omega) hjz
  have hnew := image_sect (z := z) (D.crashed ps).dur K j (fun s hs => by have := hCl.each s hs; have : (D.crashed ps).size = z := hDs; omega) (by have := hCl.dims; have h2 : (D.crashed ps).blocks = N := hDb; omega) hjz
  have hcs := sect_crash (z := z) (pen := D.pen) (K := K) hjz (fun p hp => by have := hDok.pend p hp; rw [hDs] at this; exact ⟨this.1, this.2.2⟩) ps D.dur (fun s hs => by rw [hDok.each s hs, hDs]) (by omega) (fun p hp => ⟨(hpk.1 p hp).1, (hpk.1 p hp).2.1⟩)
  have eN : B ((mkB (D.crashed ps).image).extract (t * 64) (t * 64 + 64)) = sect (B ((D.crashed ps).dur.getD K ByteArray.empty)) j := by
    rw [hl64 _ t hnow' (by omega), hKj]
    exact hnew
  have eO : B ((mkB D.image).extract (t * 64) (t * 64 + 64)) = sect (B (D.dur.getD K ByteArray.empty)) j := by
    rw [hl64 _ t hwas' (by omega), hKj]
    exact hold
  generalize hSN : (mkB (D.crashed ps).image).extract (t * 64) (t * 64 + 64) = SN at eN
  generalize hSO : (mkB D.image).extract (t * 64) (t * 64 + 64) = SO at eO
  rw [str_beq]
  by_cases hsame : B SN = B SO
  · rw [decide_eq_true hsame]
    exact splitW_f (by rfl) (splitW_f (by rfl) (next w13 he13))
  rw [decide_eq_false hsame]
  refine splitW_t (by rfl) ?_
  have hm : ∃ i, i < n2 ∧ matchP D.pen K j (B SN) (ps.getD i (0, 0)) := by
    rcases hcs with h | ⟨p, h1, h2, h3, h4⟩
    · exact absurd (by rw [eN, eO]; exact h) hsame
    · obtain ⟨i', hi', rfl⟩ := List.mem_iff_getElem.1 h1
      refine ⟨i', by have := hp.len; omega, ?_⟩
      have : ps.getD i' (0, 0) = ps[i'] := by rw [List.getD_eq_getElem?_getD, List.getElem?_eq_getElem hi']; rfl
      rw [this]
      exact ⟨h2, h3, by rw [eN]; exact h4⟩
  refine loopW_i (fun (y : Bool × Int × Unit) w' => ∃ (i : Nat) (ok : Bool), i ≤ n2 ∧ y = (ok, (i : Int), ()) ∧ Ext w12 w' ∧ (ok = true ∨ ∃ i', i ≤ i' ∧ i' < n2 ∧ matchP D.pen K j (B SN) (ps.getD i' (0, 0)))) (fun y => ((n2 : Int) - y.2.1).toNat) ⟨0, false, by omega, rfl, he13, .inr (by obtain ⟨i', h1, h2⟩ := hm; exact ⟨i', by omega, h1, h2⟩)⟩ ?_
  rintro _ w14 ⟨i, ok, hi, rfl, he14, hok'⟩
  dsimp only
  by_cases hil : i < n2
  rotate_left
  · obtain rfl : i = n2 := by omega
    refine splitW_f (decide_eq_false (by omega)) ?_
    rcases hok' with rfl | ⟨i', h1, h2, _⟩
    · exact splitW_f (by rfl) (next w14 he14)
    · omega
  refine splitW_t (decide_eq_true (by omega)) ?_
  refine joinW_s (fun (x : Bool × Unit) w' => Ext w12 w' ∧ (ok = true → x.1 = true) ∧ (matchP D.pen K j (B SN) (ps.getD i (0, 0)) → x.1 = true)) ?_ ?_
  · rintro ⟨x, _⟩ w15 ⟨he15, hx1, hx2'⟩
    rw [wrap_i64 (by omega) (by omega)]
    refine ⟨⟨i + 1, x, hil, rfl, he15, ?_⟩, by omega⟩
    rcases hok' with h | ⟨i', h1, h2, h3⟩
    · exact .inl (hx1 h)
    · by_cases hii : i' = i
      · subst hii
        exact .inl (hx2' h3)
      · exact .inr ⟨i', by omega, h2, h3⟩
  intro J hJ
  refine draw_i fun w15 he15' _ _ => ?_
  have he15 := he14.trans he15'
  have hxx := hx12.trans he15
  have hps15 := hp.ext (hx2.trans hxx)
  have hpl := hp.len
  have hsw15 := (hsw.ext he812).ext he15
  have eP : ps[i]? = some (ps.getD i (0, 0)) := by rw [List.getD_eq_getElem?_getD, List.getElem?_eq_getElem (by omega)]; rfl
  have hPk := hpk.1 _ (List.mem_of_getElem? eP)
  obtain ⟨pa, epa, hpas, hpac⟩ := hps15.at_ eP
  generalize hPd : ps.getD i (0, 0) = P at eP hPk hpac hJ
  have hspa : (pa.add (i * 2)).spot = none := by
    obtain ⟨b', o', s'⟩ := pa
    simp only at hpas
    subst hpas
    rw [add_mk]
  have hW : ∀ {K : Int → WP}, K P.1 w15 → (guardW (0 ≤ (i : Int) ∧ (i : Int) < (n2 : Int)) <| ptrW A2 fun p => ldW (.int .i64) (p.add (Int.toNat (i : Int) * 2)) K) w15 := fun {K} hk => by
    rw [epa, Int.toNat_natCast]
    refine guard_i (by omega) (ptr_i (ld_i (l := .int .i64) (x := P.1) ?_ hk))
    have := hpac.1
    rwa [add_zero] at this
  have eQ : D.pen[P.1.toNat]? = some (D.pen.getD P.1.toNat w00) := by rw [List.getD_eq_getElem?_getD, List.getElem?_eq_getElem (by have := hPk.1; have := hPk.2.1; omega)]; rfl
  have hQok := hDok.pend _ (List.mem_of_getElem? eQ)
  have hQd : D.pen.getD P.1.toNat w00 = D.pen.getD P.1.toNat w00 := rfl
  generalize hQe : D.pen.getD P.1.toNat w00 = Q at eQ hQok
  rw [hDs, hDb] at hQok
  refine hW ?_
  refine splitW_f (decide_eq_false (by have := hPk.1; omega)) (hW (splitW_f (decide_eq_false (by have := hPk.2.1; omega)) (hW ?_)))
  refine idx_f (l := .str) (k := 2) 1 (fun x : Int × ByteArray => x.2) w00 hsw15 (fun _ => rfl) rfl hPk.1 hPk.2.1 ?_
  rw [hQe]
  refine box0 (z : Int) (hb2.ext hxx) (by rfl) (splitW_f (bne_eq_false_iff_eq.2 hQok.2.2) (hW ?_))
  refine idx_A (ls := [.int .i64, .str]) (fun x : Int × ByteArray => (x.1, x.2, ())) w00 hsw15 (fun _ => rfl) rfl hPk.1 hPk.2.1 ?_
  rw [hQe]
  refine box_i (vs := writeE.f Q) (by rfl) (writeE.one Q) ?_ (by rfl)
  intro r47 w16 hb47 he16 hr47
  have he16' := he15.trans he16
  have hbx16 := hb2.ext (hx12.trans he16')
  refine box0 Q.1 hb47 (by rfl) (box0 (z : Int) hbx16 (by rfl) ?_)
  refine splitW_i (fun hk => hJ _ _ ⟨he16', fun _ => rfl, fun _ => rfl⟩) (fun hk => ?_)
  obtain ⟨Q1, hQ1⟩ : ∃ Q1 : Nat, Q.1 = Q1 := ⟨Q.1.toNat, by have := hQok.1; omega⟩
  have hQN : Q1 < N := by have := hQok.2.1; omega
  have hQz : Q1 * z ≤ N * z := Nat.mul_le_mul_right _ (by omega)
  have ek : IntKind.wrap .i64 (((t * 64 : Nat) : Int) - IntKind.wrap .i64 (Q.1 * (z : Int))) = ((t * 64 : Nat) : Int) - ((Q1 * z : Nat) : Int) := by
    rw [hQ1, show (Q1 : Int) * (z : Int) = ((Q1 * z : Nat) : Int) by rw [Int.natCast_mul], wrap_i64 (x := ((Q1 * z : Nat) : Int)) (by omega) (by omega), wrap_i64 (by omega) (by omega)]
  rw [ek]
  have hmlt : matchP D.pen K j (B SN) P → Q1 = K := fun hm => by
    have := hm.1
    rw [hQe, hQ1] at this
    exact Int.ofNat.inj this
  have no : ∀ w', Ext w12 w' → (matchP D.pen K j (B SN) P → False) → J (false, ()) w' := fun w' h hn => hJ _ _ ⟨h, (fun h2 => by rw [hk] at h2; cases h2), fun h2 => (hn h2).elim⟩
  refine splitW_i (fun hge => ?_) (fun hge => no _ he16' (fun hm => by
    have hge := of_decide_eq_false hge
    have := hmlt hm
    subst this
    omega))
  have hge := of_decide_eq_true hge
  refine box0 (z : Int) hbx16 (by rfl) (splitW_i (fun hltz => ?_) (fun hltz => no _ he16' (fun hm => by
    have hltz := of_decide_eq_false hltz
    have := hmlt hm
    subst this
    omega)))
  have hltz := of_decide_eq_true hltz
  have hQK : Q1 = K := by
    rcases Nat.lt_trichotomy Q1 K with h | h | h
    · have : (Q1 + 1) * z ≤ K * z := Nat.mul_le_mul_right _ h
      rw [Nat.add_mul, Nat.one_mul] at this
      omega
    · exact h
    · have : (K + 1) * z ≤ Q1 * z := Nat.mul_le_mul_right _ h
      rw [Nat.add_mul, Nat.one_mul] at this
      omega
  subst hQK
  have ekj : ((t * 64 : Nat) : Int) - ((Q1 * z : Nat) : Int) = ((j * 64 : Nat) : Int) := by omega
  rw [ekj]
  have ej : IntKind.wrap .u64 (IntKind.wrap .i64 (Int.tdiv ((j * 64 : Nat) : Int) 64)) = (j : Int) := by
    rw [Int.tdiv_eq_ediv_of_nonneg (by omega), wrap_i64 (by omega) (by omega), wrap_u64]
    omega
  rw [ej]
  have hpac16 := cellsAt_ext he16 hpac
  rw [epa]
  refine guard_i (by omega) (ptr_i ?_)
  rw [Int.toNat_natCast]
  refine ld_i (l := .int .u64) (x := (P.2 : Int)) (by have := cellsAt_get hspa hpac16 (o := 1) (v := .int .u64 (P.2 : Int)) rfl; rwa [Nat.zero_add] at this) ?_
  refine guard_i (by omega) ?_
  rw [ishr_nat .u64 P.2 j (by show j ≤ 64; omega)]
  have etm : (Int.tmod ((P.2 / 2 ^ j : Nat) : Int) 2 == 1) = P.2.testBit j := by
    rw [Int.tmod_eq_emod_of_nonneg (Int.natCast_nonneg _), Nat.testBit_eq_decide_div_mod_eq]
    by_cases hh : P.2 / 2 ^ j % 2 = 1
    · rw [decide_eq_true hh]
      exact beq_iff_eq.2 (by omega)
    · rw [decide_eq_false hh]
      exact beq_eq_false_iff_ne.2 (by omega)
  rw [etm]
  refine splitW_i (fun hbit => ?_) (fun hbit => no _ he16' (fun hm => by rw [hm.2.1] at hbit; cases hbit))
  refine boxF 1 Q.2 hb47 (by rfl) ?_
  have e65 : IntKind.wrap .i64 (((j * 64 : Nat) : Int) + 64) = ((j * 64 + 64 : Nat) : Int) := by rw [wrap_i64 (by omega) (by omega)]; rfl
  rw [e65]
  refine guard_i ⟨by omega, by omega, by have := hQok.2.2; omega⟩ ?_
  simp only [Int.toNat_natCast]
  refine hJ _ _ ⟨he16', (fun h2 => by rw [hk] at h2; cases h2), fun hm => ?_⟩
  have h3 := hm.2.2
  rw [hQe] at h3
  dsimp only
  rw [str_beq]
  refine decide_eq_true ?_
  rw [h3, B_extract, Nat.add_sub_cancel_left]
  rfl
end Go.Proofs.YtpbjbhcejgnhiaaDoor.V
