/- Laws of chapter 03: acts; DeviceFuses. -/
import Derived.Test.YtpbjbhcejgnhiaaDoorL
import Derived.Test.YtpbjbhcejgnhiaaDoorDecDev
set_option linter.unusedVariables false
set_option linter.unusedSimpArgs false
namespace Go.Proofs.YtpbjbhcejgnhiaaDoor.V
open Go Go.Proofs Go.RowKit Crc

theorem cellsAt_ext {w w' : World} (he : Ext w w') {a : Addr} : ∀ {vs : List Value} {i : Nat}, CellsAt w a i vs → CellsAt w' a i vs
  | [], _, _ => trivial
  | v :: r, i, h => ⟨he.cell h.1, cellsAt_ext he h.2⟩
theorem hl_cells {w : World} {a : Addr} : ∀ {vs : List Value} {i : Nat}, CellsAt w a i vs → ∀ p ∈ cellList a i vs, w.cell? p.1 = some p.2
  | [], _, _, p, hp => by cases hp
  | v :: r, i, h, p, hp => by
    rcases List.mem_cons.1 hp with rfl | hp
    · exact h.1
    · exact hl_cells h.2 p hp
def a00 : ActV := (0, 0, 0, 0, 0, (none, 0, 0))
/-- An act's place in memory. -/
theorem act_at {w : World} {A : Option Addr} {n i : Nat} {acts : List ActV} (h : Sli actE w A n acts) (hi : i < n) :
    ∃ p, A = some p ∧ (p.add (i * 6)).spot = none ∧ CellsAt w (p.add (i * 6)) 0 (actE.f (acts.getD i a00)) ∧ acts.getD i a00 ∈ acts := by
  have hl := h.len
  have e : acts[i]? = some (acts.getD i a00) := by rw [List.getD_eq_getElem?_getD, List.getElem?_eq_getElem (by omega)]; rfl
  obtain ⟨p, ep, hs, hc⟩ := h.at_ e
  refine ⟨p, ep, ?_, hc, List.mem_of_getElem? e⟩
  obtain ⟨b, o, s⟩ := p
  simp only at hs
  subst hs
  rw [add_mk]
theorem act_f {w : World} {p : Addr} (hs : p.spot = none) {a : ActV} (h : CellsAt w p 0 (actE.f a)) (o : Nat) {v : Value} (hv : (actE.f a)[o]? = some v) : w.cell? (p.add o) = some v := by
  have := cellsAt_get hs h hv
  rwa [Nat.zero_add] at this
def actB (a : ActV) (size : Int) : ByteArray := mkB (timesL [0] (pick a.2.2.2.1 (size + 1)).toNat ++ timesL [a.2.2.1] (size - pick a.2.2.2.1 (size + 1)).toNat)
theorem pick_range (n m : Int) (h : 1 ≤ m) : 0 ≤ pick n m ∧ pick n m < m := by
  unfold pick
  rw [if_neg (by omega)]
  exact ⟨Int.emod_nonneg _ (by omega), Int.emod_lt_of_pos _ (by omega)⟩
theorem actB_size (a : ActV) {size : Int} (h : 0 ≤ size) : ((actB a size).size : Int) = size := by
  have := pick_range a.2.2.2.1 (size + 1) (by omega)
  unfold actB
  rw [mkB_size, List.length_append, timesL_length, timesL_length]
  simp only [List.length_singleton, Nat.mul_one]
  omega
theorem bytes_calls {w : World} (a : ActV) (hN : I64 a.2.2.2.1) {size : Int} (h0 : 0 ≤ size) (h1 : size ≤ 1000000) :
    Calls Tryd.prog 13 #[.agg (actE.f a).toArray, .int .i64 size] w (Ret fun v w' => v = .string (actB a size) ∧ Ext w w') := by
  apply calls13
  unfold S13
  refine new_i fun r1 w1 hb1 he1 hr1 hz1 => ?_
  have hb1 : Blk w1 r1 (actE.f a) 36 := hb1
  refine boxF 3 a.2.2.2.1 hb1 (by rfl) ?_
  have hp := pick_range a.2.2.2.1 (size + 1) (by omega)
  rw [wrap_i64 (x := size + 1) (by omega) (by omega)]
  refine callW_of (pick_calls w1 hN.1 hN.2 (by omega)) ?_
  rintro _ w2 ⟨rfl, hw⟩
  obtain rfl : w1 = w2 := hw.symm
  refine ⟨_, rfl, ?_⟩
  refine draw_i fun w2 he2 _ _ => ?_
  have hb2 := hb1.ext he2
  have hx2 := he1.trans he2
  refine boxF 2 (a.2.2.1.toNat : Int) hb2 (by rfl) ?_
  have hfin : mkB (timesL [0] (pick a.2.2.2.1 (size + 1)).toNat) ++ mkB (timesL [a.2.2.1] (size - pick a.2.2.2.1 (size + 1)).toNat) = actB a size := by
    apply B_inj
    rw [B_append, B_mkB, B_mkB]
    unfold actB
    rw [B_mkB]
  have hg : ((((mkB (timesL [0] (pick a.2.2.2.1 (size + 1)).toNat)).size + (mkB (timesL [a.2.2.1] (size - pick a.2.2.2.1 (size + 1)).toNat)).size : Nat) : Int)) ≤ IntKind.i64.max := by
    rw [mkB_size, mkB_size, timesL_length, timesL_length, show IntKind.i64.max = 9223372036854775807 by decide]
    simp only [List.length_singleton, Nat.mul_one]
    omega
  have ew : IntKind.wrap .i64 (size - pick a.2.2.2.1 (size + 1)) = size - pick a.2.2.2.1 (size + 1) := wrap_i64 (by omega) (by omega)
  rw [ew]
  have fz : ∀ w', Calls Tryd.prog 18 #[.int .i64 (pick a.2.2.2.1 (size + 1)), .string (ByteArray.mk #[0])] w' (Ret fun v w'' => v = .string (mkB (timesL [0] (pick a.2.2.2.1 (size + 1)).toNat)) ∧ w'' = w') := fun w' =>
    full_calls w' (ByteArray.mk #[0]) (by omega) (by show 1 * _ ≤ _; omega) (by decide)
  have fb : ∀ w', Calls Tryd.prog 18 #[.int .i64 (size - pick a.2.2.2.1 (size + 1)), .string (mkB [a.2.2.1])] w' (Ret fun v w'' => v = .string (mkB (timesL [a.2.2.1] (size - pick a.2.2.2.1 (size + 1)).toNat)) ∧ w'' = w') := fun w' =>
    full_calls w' (mkB [a.2.2.1]) (by omega) (by show 1 * _ ≤ _; omega) (by show 1 ≤ _; omega)
  refine ⟨?_, ?_⟩
  · refine callW_of (fz w2) ?_
    rintro _ w3 ⟨rfl, hw⟩
    obtain rfl : w2 = w3 := hw.symm
    refine ⟨_, rfl, h1_i (held1F hb2 (by rfl)) ?_⟩
    refine new_i fun r6 w4 hb4 he4 _ _ => ?_
    refine conv_str (bs := [a.2.2.1]) (e := 5) (by kernel_rfl) (by kernel_rfl) (by kernel_rfl) (Sl.of_blk hb4 rfl (by omega)) ?_
    refine callW_of (fb w4) ?_
    rintro _ w5 ⟨rfl, hw⟩
    obtain rfl : w4 = w5 := hw.symm
    exact ⟨_, rfl, guard_i hg ⟨by rw [hfin], hx2.trans he4⟩⟩
  · refine new_i fun r6 w4 hb4 he4 _ _ => ?_
    have hb2 := hb2.ext he4
    refine ⟨?_, ?_⟩
    · refine callW_of (fz w4) ?_
      rintro _ w3 ⟨rfl, hw⟩
      obtain rfl : w4 = w3 := hw.symm
      refine ⟨_, rfl, h1_i (held1F hb2 (by rfl)) ?_⟩
      refine conv_str (bs := [a.2.2.1]) (e := 5) (by kernel_rfl) (by kernel_rfl) (by kernel_rfl) (Sl.of_blk hb4 rfl (by omega)) ?_
      refine callW_of (fb w4) ?_
      rintro _ w5 ⟨rfl, hw⟩
      obtain rfl : w4 = w5 := hw.symm
      exact ⟨_, rfl, guard_i hg ⟨by rw [hfin], hx2.trans he4⟩⟩
    · refine conv_str (bs := [a.2.2.1]) (e := 5) (by kernel_rfl) (by kernel_rfl) (by kernel_rfl) (Sl.of_blk hb4 rfl (by omega)) ?_
      refine callW_of (fz w4) ?_
      rintro _ w3 ⟨rfl, hw⟩
      obtain rfl : w4 = w3 := hw.symm
      refine ⟨_, rfl, h1_i (held1F hb2 (by rfl)) ?_⟩
      refine callW_of (fb w4) ?_
      rintro _ w5 ⟨rfl, hw⟩
      obtain rfl : w4 = w5 := hw.symm
      exact ⟨_, rfl, guard_i hg ⟨by rw [hfin], hx2.trans he4⟩⟩
theorem write_res {d : Dev} {k : Int} {s : ByteArray} (h1 : 0 ≤ k ∧ k < d.blocks) (h2 : (s.size : Int) = d.size) : d.write k s = if d.fuse = 0 then (d, 8) else ({ d.burnt with pen := d.pen ++ [(k, s)] }, 0) := by
  unfold Dev.write
  rw [if_neg (by rintro (x | x); exact x h1; exact x h2)]
theorem burnt_ops {d : Dev} (h : 0 ≤ d.ops ∧ d.ops < 1000000) : d.burnt.ops = d.ops + 1 := by
  show IntKind.wrap .i64 (d.ops + 1) = _
  rw [wrap_i64 (by omega) (by omega)]
/-- The state of a device in DeviceFuses behind i acts. -/
structure FuseSt (size blocks f : Int) (i : Nat) (d : Dev) : Prop where
  size : d.size = size
  blocks : d.blocks = blocks
  fuse : d.fuse = f - min (i : Int) f
  ops : d.ops = min (i : Int) f
  pen : d.pen.length ≤ i
theorem FuseSt.write {size blocks f k : Int} {i : Nat} {d : Dev} {s : ByteArray} (h : FuseSt size blocks f i d) (hf : 0 ≤ f ∧ f < 45) (hi : i ≤ 40) (h1 : 0 ≤ k ∧ k < blocks) (h2 : (s.size : Int) = size) :
    ((i : Int) < f ∧ (d.write k s).2 = 0 ∧ FuseSt size blocks f (i + 1) (d.write k s).1) ∨ (f ≤ i ∧ d.write k s = (d, 8)) := by
  obtain ⟨g1, g2, g3, g4, g5⟩ := h
  rw [write_res (by rw [g2]; exact h1) (by rw [g1]; exact h2)]
  by_cases hlt : (i : Int) < f
  · rw [if_neg (by omega)]
    refine .inl ⟨hlt, rfl, g1, g2, ?_, ?_, ?_⟩
    · show max (-1) (d.fuse - 1) = _
      omega
    · show d.burnt.ops = _
      rw [burnt_ops (by omega)]
      omega
    · show (d.pen ++ [(k, s)]).length ≤ i + 1
      simp; omega
  · rw [if_pos (by omega)]
    exact .inr ⟨by omega, rfl⟩
theorem FuseSt.flush {size blocks f : Int} {i : Nat} {d : Dev} (h : FuseSt size blocks f i d) (hf : 0 ≤ f ∧ f < 45) (hi : i ≤ 40) :
    ((i : Int) < f ∧ d.flush.2 = 0 ∧ FuseSt size blocks f (i + 1) d.flush.1) ∨ (f ≤ i ∧ d.flush = (d, 8)) := by
  obtain ⟨g1, g2, g3, g4, g5⟩ := h
  unfold Dev.flush
  by_cases hlt : (i : Int) < f
  · rw [if_neg (by omega)]
    refine .inl ⟨hlt, rfl, g1, g2, ?_, ?_, ?_⟩
    · show max (-1) (d.fuse - 1) = _
      omega
    · show d.burnt.ops = _
      rw [burnt_ops (by omega)]
      omega
    · exact Nat.zero_le _
  · rw [if_pos (by omega)]
    exact .inr ⟨by omega, rfl⟩
theorem fuses_calls {w : World} (hT : DeB w) {size blocks fz : Int} (hs : I64 size) (hbk : I64 blocks) (hfz : I64 fz) {A : Option Addr} {n c : Nat} {acts : List ActV} (ha : Sli actE w A n acts) (hq : ∀ a ∈ acts, actQ w a) :
    Calls Tryd.prog 5 #[.agg #[.int .i64 size, .int .i64 blocks], .slice A n c, .int .i64 fz] w (Ret fun v w' => v = .bool true ∧ Ext w w') := by
  apply calls5
  unfold S5
  refine new_i fun r1 w1 hb1 he1 hr1 hz1 => ?_
  have hb1 : Blk w1 r1 [.int .i64 size, .int .i64 blocks] 23 := hb1
  refine callW_of (lives_calls (hT.ext he1)) ?_
  rintro _ w2 ⟨rfl, he2⟩
  refine ⟨_, rfl, splitW_f (by rfl) ?_⟩
  have hb2 := hb1.ext he2
  have hx2 := he1.trans he2
  refine boxA (ls := [.int .i64, .int .i64]) (size, blocks, ()) hb2 rfl ?_
  refine callW_of (dnew_calls w2 size blocks) ?_
  rintro v3 w3 h3
  have hx23 : Ext w2 w3 := by
    rcases h3 with ⟨_, b, _, F, _, _, h⟩ | ⟨_, _, h⟩
    · exact h
    · exact h
  have hb3 := hb2.ext hx23
  have hx3 := hx2.trans hx23
  have hlight := fun w => lightgeo_calls w size blocks
  rcases h3 with ⟨hok, b, rfl, hN⟩ | ⟨hok, rfl, _⟩
  rotate_left
  · refine ⟨(none, 2, ()), rfl, ?_⟩
    refine boxA (ls := [.int .i64, .int .i64]) (size, blocks, ()) hb3 rfl ?_
    refine callW_of (hlight w3) ?_
    rintro _ w4 ⟨rfl, he4⟩
    have hx4 := hx3.trans he4
    refine ⟨_, rfl, splitW_i (fun _ => ⟨rfl, hx4⟩) (fun _ => splitW_i (fun _ => ⟨rfl, hx4⟩) (fun _ => splitW_t (by rfl) ⟨rfl, hx4⟩))⟩
  refine ⟨(some ⟨b, 0, none⟩, 0, ()), rfl, ?_⟩
  refine boxA (ls := [.int .i64, .int .i64]) (size, blocks, ()) hb3 rfl ?_
  refine callW_of (hlight w3) ?_
  rintro _ w4 ⟨rfl, he4⟩
  have hx4 := hx3.trans he4
  have hb4 := hb3.ext he4
  replace hN : DevNew w2 (dev0 size blocks) b w4 := hN.ext he4
  refine ⟨_, rfl, splitW_i (fun _ => ⟨rfl, hx4⟩) (fun hl => splitW_i (fun _ => ⟨rfl, hx4⟩) (fun hn => splitW_f (by rfl) ?_))⟩
  have hn := of_decide_eq_false hn
  have hg := geo_dims hok
  have hp45 := pick_range fz 45 (by omega)
  refine callW_of (pick_calls w4 hfz.1 hfz.2 (by omega)) ?_
  rintro _ w5 ⟨rfl, hw⟩
  obtain rfl : w4 = w5 := hw.symm
  refine ⟨_, rfl, ?_⟩
  generalize pick fz 45 = f at hp45 ⊢
  obtain ⟨F, hD, hlo, hx⟩ := hN
  refine callW_of (fuse_calls hD (n := f) (by omega)) ?_
  rintro _ w5 ⟨rfl, hst⟩
  refine ⟨(), rfl, ?_⟩
  replace hN := DevNew.step hlo hx hst
  have hfm : max (-1) f = f := by omega
  rw [hfm] at hN
  have hS0 : FuseSt size blocks f 0 { dev0 size blocks with fuse := f } := ⟨rfl, rfl, by show f = f - min ((0 : Nat) : Int) f; omega, by show (0 : Int) = min ((0 : Nat) : Int) f; omega, Nat.le_refl _⟩
  clear hst hD hlo hx
  refine loopW_i (fun y w' => ∃ (i : Nat) (D : Dev), i ≤ n ∧ y = ((i : Int), ()) ∧ DevNew w2 D b w' ∧ FuseSt size blocks f i D) (fun y => (n - y.1).toNat) ⟨0, _, by omega, rfl, hN, hS0⟩ ?_
  rintro _ w6 ⟨i, D, hi, rfl, hN, hS⟩
  dsimp only
  by_cases hlt : i < n
  · refine splitW_t (decide_eq_true (by omega)) ?_
    have hpen := hS.pen
    obtain ⟨F, hD, hlo, hx⟩ := hN
    refine callW_of (ops_calls hD) ?_
    rintro _ w7 ⟨rfl, hw⟩
    obtain rfl : w6 = w7 := hw.symm
    refine ⟨_, rfl, ?_⟩
    refine callW_of (pending_calls hD (by omega)) ?_
    rintro _ w7 ⟨Ap, cp, rfl, _, he7⟩
    refine ⟨(Ap, D.pen.length, cp), rfl, ?_⟩
    refine callW_of (image_calls (hD.ext he7)) ?_
    rintro _ w8 ⟨rfl, he8⟩
    refine ⟨_, rfl, ?_⟩
    have he := he7.trans he8
    replace hD := hD.ext he
    replace hx := hx.trans he
    dsimp only
    refine joinW_s (fun (x : Int × Unit) w' => ((i : Int) < f ∧ x = (0, ()) ∧ ∃ D', DevNew w2 D' b w' ∧ FuseSt size blocks f (i + 1) D') ∨ (f ≤ i ∧ x = (8, ()) ∧ DevNew w2 D b w')) ?_ ?_
    · rintro ⟨x, _⟩ w9 hres
      have next : ∀ D', DevNew w2 D' b w9 → FuseSt size blocks f (i + 1) D' → (∃ (j : Nat) (D : Dev), j ≤ n ∧ (IntKind.wrap .i64 ((i : Int) + 1), ()) = ((j : Int), ()) ∧ DevNew w2 D b w9 ∧ FuseSt size blocks f j D) ∧ (n - IntKind.wrap .i64 ((i : Int) + 1)).toNat < ((n : Int) - (i : Int)).toNat := fun D' h1 h2 => by
        rw [wrap_i64 (by omega) (by omega)]
        exact ⟨⟨i + 1, D', hlt, rfl, h1, h2⟩, by omega⟩
      rcases hres with ⟨hif, hx0, D', hN', hS'⟩ | ⟨hif, hx0, hN'⟩
      · obtain rfl : x = 0 := by injection hx0
        refine splitW_t (decide_eq_true hif) (splitW_f (by rfl) ?_)
        have hN2 := hN'
        obtain ⟨F', hD', hlo', hx'⟩ := hN'
        refine callW_of (ops_calls hD') ?_
        rintro _ w10 ⟨rfl, hw⟩
        obtain rfl : w9 = w10 := hw.symm
        refine ⟨_, rfl, splitW_f ?_ (next D' hN2 hS')⟩
        rw [wrap_i64 (by rw [hS.ops]; omega) (by rw [hS.ops]; omega), hS'.ops, hS.ops]
        exact bne_eq_false_iff_eq.2 (by omega)
      · obtain rfl : x = 8 := by injection hx0
        refine splitW_f (decide_eq_false (by omega)) (splitW_f (by rfl) ?_)
        have hN2 := hN'
        have hS' : FuseSt size blocks f (i + 1) D := ⟨hS.size, hS.blocks, by rw [hS.fuse]; omega, by rw [hS.ops]; omega, by omega⟩
        obtain ⟨F', hD', hlo', hx'⟩ := hN'
        refine callW_of (ops_calls hD') ?_
        rintro _ w10 ⟨rfl, hw⟩
        obtain rfl : w9 = w10 := hw.symm
        refine ⟨_, rfl, splitW_f (bne_eq_false_iff_eq.2 rfl) ?_⟩
        refine callW_of (pending_calls hD' (by omega)) ?_
        rintro _ w11 ⟨Ap', cp', rfl, _, he11⟩
        refine ⟨(Ap', D.pen.length, cp'), rfl, splitW_f (bne_eq_false_iff_eq.2 rfl) ?_⟩
        refine callW_of (image_calls (hD'.ext he11)) ?_
        rintro _ w12 ⟨rfl, he12⟩
        refine ⟨_, rfl, splitW_f (by rw [str_beq, decide_eq_true rfl]; rfl) ?_⟩
        have hN3 := hN2.ext (he11.trans he12)
        rw [wrap_i64 (by omega) (by omega)]
        exact ⟨⟨i + 1, D, hlt, rfl, hN3, hS'⟩, by omega⟩
    · intro J hJ
      obtain ⟨p, rfl, hps, hpc, hmem⟩ := act_at ha hlt
      obtain ⟨hk0, hk1, hk3, _⟩ := hq _ hmem
      have hW8 : Ext w w8 := hx2.trans hx
      replace hpc := cellsAt_ext hW8 hpc
      generalize acts.getD i a00 = act at hpc hmem hk0 hk1 hk3
      refine guard_i (by omega) (ptr_i ?_)
      rw [Int.toNat_natCast]
      refine ld_i (l := .int .i64) (x := act.1) (by have := act_f hps hpc 0 (v := .int .i64 act.1) rfl; rwa [add_zero] at this) ?_
      refine splitW_i (fun _ => ?_) (fun _ => ?_)
      · refine callW_of (flush_calls hD) ?_
        rintro _ w9 ⟨rfl, hst⟩
        refine ⟨_, rfl, hJ _ _ ?_⟩
        have hN9 := DevNew.step hlo hx hst
        rcases hS.flush hp45 (by omega) with ⟨g1, g2, g3⟩ | ⟨g1, g2⟩
        · exact .inl ⟨g1, by rw [g2], _, hN9, g3⟩
        · rw [g2] at hN9 ⊢
          exact .inr ⟨g1, rfl, hN9⟩
      · refine draw_i fun w9 he9 _ _ => ?_
        have hb9 := (hb2.ext hx).ext he9
        replace hpc := cellsAt_ext he9 hpc
        replace hD := hD.ext he9
        replace hx := hx.trans he9
        refine guard_i (by omega) (ptr_i ?_)
        refine ld_i (l := .int .i64) (x := act.2.1) (act_f hps hpc 1 rfl) ?_
        refine boxF 1 blocks hb9 (by rfl) (guard_i (by omega) (ptr_i ?_))
        refine ldA_i (ls := [.int .i64, .int .i64, .int .u8, .int .i64, .int .u32, .slc]) (x := (act.1, act.2.1, (act.2.2.1.toNat : Int), act.2.2.2.1, (act.2.2.2.2.1.toNat : Int), act.2.2.2.2.2, ())) hpc ?_
        refine box0 size hb9 (by rfl) ?_
        refine callW_of (pick_calls w9 hk1.1 hk1.2 (by omega)) ?_
        rintro _ w10 ⟨rfl, hw⟩
        obtain rfl : w9 = w10 := hw.symm
        refine ⟨_, rfl, h2_i (held1Z hb9 (by rfl)) (hl_cells hpc) ?_⟩
        refine callW_of (bytes_calls act hk3 (size := size) (by omega) (by omega)) ?_
        rintro _ w11 ⟨rfl, he11⟩
        refine ⟨_, rfl, ?_⟩
        have hpk := pick_range act.2.1 blocks (by omega)
        refine callW_of (write_calls (hD.ext he11) (pick act.2.1 blocks) (actB act size) (by omega)) ?_
        rintro _ w12 ⟨rfl, hst⟩
        refine ⟨_, rfl, hJ _ _ ?_⟩
        have hN9 := DevNew.step hlo (hx.trans he11) hst
        rcases hS.write (k := pick act.2.1 blocks) (s := actB act size) hp45 (by omega) hpk (actB_size act (by omega)) with ⟨g1, g2, g3⟩ | ⟨g1, g2⟩
        · exact .inl ⟨g1, by rw [g2], _, hN9, g3⟩
        · rw [g2] at hN9 ⊢
          exact .inr ⟨g1, rfl, hN9⟩
  · obtain rfl : i = n := by omega
    refine splitW_f (decide_eq_false (by omega)) ?_
    obtain ⟨F, hD, hlo, hx⟩ := hN
    refine callW_of (fuse_calls hD (n := -1) (by omega)) ?_
    rintro _ w7 ⟨rfl, hst⟩
    refine ⟨(), rfl, ?_⟩
    obtain ⟨F, hD, hlo, hx⟩ := DevNew.step hlo hx hst
    refine callW_of (flush_calls hD) ?_
    rintro _ w8 ⟨rfl, hst⟩
    refine ⟨_, rfl, ?_⟩
    have hfl : ({ D with fuse := max (-1) (-1) } : Dev).flush = ({ ({ D with fuse := max (-1) (-1) } : Dev).burnt with dur := D.pen.foldl Go.Proofs.YtpbjbhcejgnhiaaDoor.V.put D.dur, pen := [] }, 0) := by
      unfold Dev.flush
      exact if_neg (by show ¬ (max (-1) (-1) : Int) = 0; omega)
    rw [hfl] at hst ⊢
    refine splitW_t (by rfl) ?_
    obtain ⟨F, hD, hlo, hx⟩ := DevNew.step hlo hx hst
    refine callW_of (ops_calls hD) ?_
    rintro _ w9 ⟨rfl, hw⟩
    obtain rfl : w8 = w9 := hw.symm
    refine ⟨_, rfl, ?_, hx2.trans hx⟩
    have hops : ({ ({ D with fuse := max (-1) (-1) } : Dev).burnt with dur := D.pen.foldl Go.Proofs.YtpbjbhcejgnhiaaDoor.V.put D.dur, pen := [] } : Dev).ops = D.ops + 1 := by
      show ({ D with fuse := max (-1) (-1) } : Dev).burnt.ops = _
      exact burnt_ops (by show 0 ≤ D.ops ∧ D.ops < 1000000; rw [hS.ops]; omega)
    rw [hops, hS.ops]
    congr 1
    refine beq_iff_eq.2 ?_
    split <;> rw [wrap_i64 (by omega) (by omega)] <;> omega
theorem write_dims (d : Dev) (k : Int) (s : ByteArray) : (d.write k s).1.size = d.size ∧ (d.write k s).1.blocks = d.blocks := by
  unfold Dev.write
  split
  · exact ⟨rfl, rfl⟩
  · split <;> exact ⟨rfl, rfl⟩
theorem flush_dims (d : Dev) : d.flush.1.size = d.size ∧ d.flush.1.blocks = d.blocks ∧ d.flush.1.pen.length ≤ d.pen.length := by
  unfold Dev.flush
  split
  · exact ⟨rfl, rfl, Nat.le_refl _⟩
  · exact ⟨rfl, rfl, Nat.zero_le _⟩
end Go.Proofs.YtpbjbhcejgnhiaaDoor.V
