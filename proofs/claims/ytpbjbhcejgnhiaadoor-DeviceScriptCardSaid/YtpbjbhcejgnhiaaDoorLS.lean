/- Law DeviceScript. -/
import Derived.Test.YtpbjbhcejgnhiaaDoorKRDev
set_option linter.unusedVariables false
set_option linter.unusedSimpArgs false
namespace Go.Proofs.YtpbjbhcejgnhiaaDoor.V
open Go Go.Proofs Go.RowKit Crc

theorem eql_geo (w : World) (a b : Int) (x y : Operand) : (eqS .eql 23 x y (.agg #[.int .i64 a, .int .i64 b]) (.agg #[.int .i64 a, .int .i64 b])).run Tryd.prog w = .ok (.bool true) w := by
  have hf : (Tryd.prog.fieldsOf 23).toList = [(Tryd.prog.fieldsOf 23).getD 0 default, (Tryd.prog.fieldsOf 23).getD 1 default] := by kernel_rfl
  have h : (Op.eqFields 9999 #[.int .i64 a, .int .i64 b] #[.int .i64 a, .int .i64 b] (Tryd.prog.fieldsOf 23).toList).run Tryd.prog w = .ok (a == a && (b == b && true)) w := by
    rw [hf]
    refine eqFields_step (of_decide_eq_true (by kernel_rfl)) (a := .int .i64 a) (b := .int .i64 a) (by kernel_rfl) (by kernel_rfl) (run_equalIn_int w 9998 _ .i64 .i64 _ _ (by kernel_rfl)) ?_
    refine eqFields_step (of_decide_eq_true (by kernel_rfl)) (a := .int .i64 b) (b := .int .i64 b) (by kernel_rfl) (by kernel_rfl) (run_equalIn_int w 9998 _ .i64 .i64 _ _ (by kernel_rfl)) ?_
    rfl
  have := eqS_eql (x := x) (y := y) (by kernel_rfl) (by kernel_rfl) (by kernel_rfl) h
  simpa using this
/-- The same is done to both. -/
theorem two_both {w0 w w' w'' : World} {b c : Nat} {d1 e e1 : Dev} {F G : Nat → Prop} (hO : DevAt w c e G) (hFG : ∀ k, F k → ¬ G k) (hlF : ∀ k, F k → w0.heap.size ≤ k) (hlG : ∀ k, G k → w0.heap.size ≤ k) (hx : Ext w0 w) (s : Step w b F d1 w') (s2 : Step w' c G e1 w'') : Two w0 b d1 c e1 w'' := by
  obtain ⟨F', q1, q2, q3⟩ := s
  refine (Two.step (b := c) (c := b) (F := G) (G := F') q1 (fun k hg hf => ?_) hlG (fun k hk => ?_) (Ext.only' hx q3 hlF) s2).swap
  · rcases q2 k hf with x | x
    · exact hFG k x hg
    · have := hO.lt k hg; omega
  · rcases q2 k hk with x | x
    · exact hlF k x
    · have := hx.size; omega
theorem step_other {w w' : World} {b c : Nat} {d1 e : Dev} {F G : Nat → Prop} (hO : DevAt w c e G) (hFG : ∀ k, F k → ¬ G k) (s : Step w b F d1 w') : DevAt w' c e G := by
  obtain ⟨F', q1, q2, q3⟩ := s
  exact hO.apart q3 (fun j hj hf => hFG j hf hj)
theorem step_blk {w w' : World} {b r : Nat} {d1 : Dev} {F : Nat → Prop} {cs : List Value} {t : TypeId} (hb : Blk w r cs t) (hr : ¬ F r) (s : Step w b F d1 w') : Blk w' r cs t := by
  obtain ⟨F', q1, q2, q3⟩ := s
  exact hb.only q3 hr
theorem rot_pen (d : Dev) (k bit : Int) (m : W32) : (d.rot k bit m).1.pen = d.pen := by
  unfold Dev.rot
  split <;> rfl
theorem dev_box {w : World} {b : Nat} {d : Dev} {F : Nat → Prop} (h : DevAt w b d F) : ∃ Ad nd cd Ap cp t, Blk w b [.int .i64 d.size, .int .i64 d.blocks, .slice Ad nd cd, .slice Ap d.pen.length cp, .int .i64 d.ops, .int .i64 d.fuse] t ∧ Sli writeE w Ap d.pen.length d.pen := by
  obtain ⟨Ad, Ap, nd, cd, np, cp, t, hb, hd, hp, hF, h1, h2, h3⟩ := h.mem
  obtain rfl := hp.len
  exact ⟨Ad, nd, cd, Ap, cp, t, hb, hp.sl⟩
theorem script_calls {w : World} (hT : DeB w) {size blocks : Int} (hs : I64 size) (hbk : I64 blocks) {A : Option Addr} {n c : Nat} {acts : List ActV} (ha : Sli actE w A n acts) (hq : ∀ a ∈ acts, actQ w a) :
    Calls Tryd.prog 8 #[.agg #[.int .i64 size, .int .i64 blocks], .slice A n c] w (Ret fun v w' => v = .bool true ∧ Ext w w') := by
  apply calls8
  unfold S8
  refine new_i fun r1 w1 hb1 he1 hr1 hz1 => ?_
  have hb1 : Blk w1 r1 [.int .i64 size, .int .i64 blocks] 23 := hb1
  refine callW_of (lives_calls (hT.ext he1)) ?_
  rintro _ w2 ⟨rfl, he2⟩
  refine ⟨_, rfl, splitW_f (by rfl) ?_⟩
  have hb2 := hb1.ext he2
  have hx2 := he1.trans he2
  refine boxA (ls := [.int .i64, .int .i64]) (size, blocks, ()) hb2 rfl ?_
  refine callW_of (lightgeo_calls w2 size blocks) ?_
  rintro _ w3 ⟨rfl, he3⟩
  have hb3 := hb2.ext he3
  have hx3 := hx2.trans he3
  refine ⟨_, rfl, splitW_i (fun _ => ⟨rfl, hx3⟩) (fun hl => splitW_i (fun _ => ⟨rfl, hx3⟩) (fun hn => ?_))⟩
  have hn := of_decide_eq_false hn
  refine boxA (ls := [.int .i64, .int .i64]) (size, blocks, ()) hb3 rfl ?_
  refine callW_of (dnew_calls w3 size blocks) ?_
  rintro v4 w4 h4
  refine ⟨((match v4 with | .tuple #[.pointer p, _] => p | _ => none), (match v4 with | .tuple #[_, .int _ z] => z | _ => 0), ()), (by rcases h4 with ⟨_, b, rfl, _⟩ | ⟨_, rfl, _⟩ <;> rfl), ?_⟩
  have he4 : Ext w3 w4 := by
    rcases h4 with ⟨_, b, _, F, _, _, h⟩ | ⟨_, _, h⟩
    · exact h
    · exact h
  have hb4 := hb3.ext he4
  refine boxA (ls := [.int .i64, .int .i64]) (size, blocks, ()) hb4 rfl ?_
  refine callW_of (rnew_calls w4 size blocks) ?_
  rintro v5 w5 h5
  refine ⟨((match v5 with | .tuple #[.pointer p, _] => p | _ => none), (match v5 with | .tuple #[_, .int _ z] => z | _ => 0), ()), (by rcases h5 with ⟨_, b, rfl, _⟩ | ⟨_, rfl, _⟩ <;> rfl), ?_⟩
  have he5 : Ext w4 w5 := by
    rcases h5 with ⟨_, b, _, F, _, _, h⟩ | ⟨_, _, h⟩
    · exact h
    · exact h
  have hb5 := hb4.ext he5
  have hx35 := he4.trans he5
  refine draw_i fun w6 he6 _ _ => ?_
  have hx36 := hx35.trans he6
  have hb6 := hb5.ext he6
  -- the two checks, told whatever the geometry
  have checks : ∀ K : WP, (∀ w', Ext w6 w' → K w') → (ldAW [.int .i64, .int .i64] (⟨r1, 0, none⟩ : Addr) fun (u9 : Int × Int × Unit) => ldAW [.int .i64, .int .i64] (⟨r1, 0, none⟩ : Addr) fun (u10 : Int × Int × Unit) =>
      callW Tryd.prog 26 [.agg #[.int .i64 u9.1, .int .i64 u9.2.1]] (.one (.one (.int .i64))) fun (u11 : Int) => heldW [[((⟨r1, 0, none⟩ : Addr).add 0, .int .i64 u10.1), ((⟨r1, 0, none⟩ : Addr).add 1, .int .i64 u10.2.1)]] <|
      callW Tryd.prog 29 [.agg #[.int .i64 u10.1, .int .i64 u10.2.1]] (.one (.one (.int .i64))) fun (u12 : Int) => splitW (u11 != u12) (fun w' => Value.bool false = .bool true ∧ Ext w w') K) w6 := by
    intro K hK
    refine boxA (ls := [.int .i64, .int .i64]) (size, blocks, ()) hb6 rfl (boxA (ls := [.int .i64, .int .i64]) (size, blocks, ()) hb6 rfl ?_)
    refine callW_of (devcheck_calls w6 size blocks) ?_
    rintro _ w7 ⟨rfl, he7⟩
    refine ⟨_, rfl, h1_i (heldAgg (hb6.ext he7)) ?_⟩
    refine callW_of (refcheck_calls w7 size blocks) ?_
    rintro _ w8 ⟨rfl, he8⟩
    exact ⟨_, rfl, splitW_f (bne_eq_false_iff_eq.2 rfl) (hK w8 (he7.trans he8))⟩
  rcases h4 with ⟨hok, b, rfl, hN⟩ | ⟨hok, rfl, _⟩
  rotate_left
  · rcases h5 with ⟨hok', _⟩ | ⟨_, rfl, _⟩
    · rw [hok] at hok'; cases hok'
    refine splitW_f (by rfl) (checks _ fun w7 he7 => splitW_f (by rfl) ?_)
    have hx7 := (hx3.trans hx36).trans he7
    refine joinW_s (fun (x : Option Addr × Option Addr × Unit) w' => x.2.1 = none ∧ Ext w w') ?_ ?_
    · rintro ⟨p, q, _⟩ w8 ⟨h8, hx8⟩
      dsimp only at h8
      subst h8
      exact draw_i fun w9 he9 _ _ => splitW_t (by rfl) ⟨rfl, hx8.trans he9⟩
    · intro J hJ
      refine loopW_i (fun y w' => y.2.1 = none ∧ w' = w7) (fun _ => 0) ⟨rfl, rfl⟩ ?_
      rintro ⟨p, q, i, _⟩ w8 ⟨h8, hw⟩
      dsimp only at h8
      subst h8 hw
      exact splitW_i (fun _ => splitW_f (by rfl) (hJ _ _ ⟨rfl, hx7⟩)) (fun _ => hJ _ _ ⟨rfl, hx7⟩)
  rcases h5 with ⟨_, o, rfl, hM⟩ | ⟨hok', _⟩
  rotate_left
  · rw [hok] at hok'; cases hok'
  have hg := geo_dims hok
  refine splitW_f (by rfl) (checks _ fun w7 he7 => splitW_f (by rfl) ?_)
  have hTw0 : Two w3 b (dev0 size blocks) o (dev0 size blocks) w7 := ((Two.of hN hM).ext he6).ext he7
  clear checks
  dsimp only
  have hb3' : ∀ {w' : World}, Ext w3 w' → Blk w' r1 [.int .i64 size, .int .i64 blocks] 23 := fun h => hb3.ext h
  have hact : ∀ {w' : World} {i : Nat}, Ext w3 w' → i < n → ∃ p, A = some p ∧ (p.add (i * 6)).spot = none ∧ CellsAt w' (p.add (i * 6)) 0 (actE.f (acts.getD i a00)) ∧ actQ w (acts.getD i a00) := fun he hi => by
    obtain ⟨p, e1, e2, e3, e4⟩ := act_at ha hi
    exact ⟨p, e1, e2, cellsAt_ext (hx3.trans he) e3, hq _ e4⟩
  let Both : (Option Addr × Option Addr) → Nat → World → Prop := fun x i w' => ∃ (b' c' : Nat) (D : Dev), x = (some ⟨b', 0, none⟩, some ⟨c', 0, none⟩) ∧ Two w3 b' D c' D w' ∧ D.pen.length ≤ i ∧ D.size = size
  refine joinW_s (fun (x : Option Addr × Option Addr × Unit) w' => ∃ i, i ≤ n ∧ Both (x.1, x.2.1) i w') ?_ ?_
  · rintro ⟨p, q, _⟩ w8 ⟨i, hin, b', c', D, hpq, hTw, hpen, hsz⟩
    injection hpq with hp hq'
    dsimp only at hp hq'
    subst hp hq'
    refine draw_i fun w9 he9 _ _ => splitW_f (by rfl) ?_
    replace hTw := hTw.ext he9
    obtain ⟨F, hD, _, _⟩ := hTw.left
    refine callW_of (image_calls hD) ?_
    rintro _ w10 ⟨rfl, he10⟩
    refine ⟨_, rfl, ?_⟩
    replace hTw := hTw.ext he10
    obtain ⟨G, hO, _, _⟩ := hTw.swap.left
    refine callW_of (rimage_calls hO) ?_
    rintro _ w11 ⟨rfl, he11⟩
    refine ⟨_, rfl, splitW_t (by rw [str_beq]; exact decide_eq_true rfl) ?_⟩
    replace hTw := hTw.ext he11
    obtain ⟨G, hO, _, _⟩ := hTw.swap.left
    obtain ⟨Ad, nd, cd, Ap, cp, t, hbO, _⟩ := dev_box hO
    refine ptr_i (ldA_i (ls := [.int .i64, .int .i64]) (x := (D.size, D.blocks, ())) ⟨by rw [add_mk, hbO.cell]; rfl, by rw [add_mk, hbO.cell]; rfl, trivial⟩ ?_)
    obtain ⟨F, hD, _, hxx⟩ := hTw.left
    refine callW_of (geo_calls hD) ?_
    rintro _ w12 ⟨rfl, he12⟩
    refine ⟨(D.size, D.blocks, ()), rfl, ?_⟩
    have hbO' := hbO.ext he12
    refine h1_i (fun z hz => ?_) ?_
    · simp only [List.mem_cons, List.not_mem_nil, or_false] at hz
      rcases hz with rfl | rfl
      · show w12.cell? ((⟨c', 0, none⟩ : Addr).add 0) = _
        rw [add_mk, hbO'.cell]; rfl
      · show w12.cell? ((⟨c', 0, none⟩ : Addr).add 1) = _
        rw [add_mk, hbO'.cell]; rfl
    exact ⟨true, fun w' => eql_geo w' _ _ _ _, rfl, (hx3.trans hxx).trans he12⟩
  intro J13 hJ13
  refine loopW_i (fun (y : Option Addr × Option Addr × Int × Unit) w' => ∃ i : Nat, i ≤ n ∧ y = (y.1, y.2.1, (i : Int), ()) ∧ Both (y.1, y.2.1) i w') (fun y => (n - y.2.2.1).toNat) ⟨0, by omega, rfl, b, o, _, rfl, hTw0, Nat.le_refl _, rfl⟩ ?_
  rintro ⟨p, q, i', _⟩ w8 ⟨i, hin, hy, b', c', D, hpq, hTw, hpen, hsz⟩
  injection hpq with hp hq'
  dsimp only at hp hq' hy ⊢
  subst hp hq'
  obtain rfl : i' = (i : Int) := by
    injection hy with _ hy
    injection hy with _ hy
    injection hy with hy _
  by_cases hlt : i < n
  rotate_left
  · exact splitW_f (decide_eq_false (by omega)) (hJ13 _ _ ⟨i, hin, b', c', D, rfl, hTw, hpen, hsz⟩)
  refine splitW_t (decide_eq_true (by omega)) (splitW_t (by rfl) ?_)
  refine joinW_s (fun (x : Option Addr × Option Addr × Unit) w' => Both (x.1, x.2.1) (i + 1) w') ?_ ?_
  · rintro ⟨p, q, _⟩ w9 hBo
    rw [wrap_i64 (by omega) (by omega)]
    exact ⟨⟨i + 1, hlt, rfl, hBo⟩, by omega⟩
  intro J17 hJ17
  obtain ⟨F, G, hD, hO, hFG, hlF, hlG, hx⟩ := hTw
  obtain ⟨pa, epa, hps, hpc, hk0, hk1, hk3, pk, hpk⟩ := hact hx hlt
  subst epa
  generalize acts.getD i a00 = act at hpc hk0 hk1 hk3 hpk
  refine guard_i (by omega) (ptr_i ?_)
  rw [Int.toNat_natCast]
  refine ldA_i (ls := [.int .i64, .int .i64, .int .u8, .int .i64, .int .u32, .slc]) (x := (act.1, act.2.1, (act.2.2.1.toNat : Int), act.2.2.2.1, (act.2.2.2.2.1.toNat : Int), act.2.2.2.2.2, ())) hpc ?_
  refine box_i (vs := actE.f act) (by rfl) (actE.one act) ?_ (by rfl)
  intro r21 w9 hb21 he9 hr21
  have hF21 : ¬ F r21 := fun h => by have := hD.lt _ h; omega
  have hG21 : ¬ G r21 := fun h => by have := hO.lt _ h; omega
  replace hD := hD.ext he9
  replace hO := hO.ext he9
  replace hx := hx.trans he9
  have hDok := hD.ok
  refine boxF 5 act.2.2.2.2.2 hb21 (by rfl) ?_
  refine splitW_i (fun _ => ⟨rfl, hx3.trans hx⟩) (fun h40 => ?_)
  have h40 := of_decide_eq_false h40
  have hpkW : ∀ {w' : World}, Ext w3 w' → picksQ w' act.2.2.2.2.2 pk := fun h => hpk.ext (hx3.trans h)
  refine joinW_s (fun (x : Option Addr × Option Addr × Bool × Unit) w' => x.2.2.1 = true ∧ Both (x.1, x.2.1) (i + 1) w') ?_ ?_
  · rintro ⟨p, q, ok, _⟩ w10 ⟨hok', b2, c2, D2, hpq, hTw, hpen2, hsz2⟩
    injection hpq with hp hq'
    dsimp only at hp hq' hok'
    subst hp hq' hok'
    refine draw_i fun w11 he11 _ _ => splitW_f (by rfl) ?_
    replace hTw := hTw.ext he11
    obtain ⟨F2, G2, hD2, hO2, _, _, _, _⟩ := hTw
    obtain ⟨Ad, nd, cd, Ap, cp, t, hbO, hsO⟩ := dev_box hO2
    refine ptr_i (boxF 4 D2.ops hbO (by rfl) ?_)
    refine callW_of (ops_calls hD2) ?_
    rintro _ w12 ⟨rfl, hw⟩
    obtain rfl : w11 = w12 := hw.symm
    refine ⟨_, rfl, h1_i (held1F hbO (by rfl)) (splitW_f (bne_eq_false_iff_eq.2 rfl) ?_)⟩
    refine ptr_i (boxF 3 (Ap, D2.pen.length, cp) hbO (by rfl) ?_)
    refine callW_of (pending_calls hD2 (by omega)) ?_
    rintro _ w13 ⟨Ap2, cp2, rfl, hop, he13⟩
    refine ⟨(Ap2, D2.pen.length, cp2), rfl, h1_i (held1F (hbO.ext he13) (by rfl)) ?_⟩
    refine callW_of (rsame_calls hop.sl (hsO.ext he13)) ?_
    rintro _ w14 ⟨rfl, he14⟩
    refine ⟨_, rfl, splitW_f (by rfl) (hJ17 _ _ ⟨b2, c2, D2, rfl, ?_, hpen2, hsz2⟩)⟩
    exact (Two.ext ⟨F2, G2, hD2, hO2, by assumption, by assumption, by assumption, by assumption⟩ (he13.trans he14))
  intro J23 hJ23
  -- what each kind of act does
  have fin : ∀ (D1 : Dev) (r : Int) (w' : World), Two w3 b' D1 c' D1 w' → D1.pen.length ≤ D.pen.length + 1 → D1.size = D.size → J23 (some ⟨b', 0, none⟩, some ⟨c', 0, none⟩, (r == r), ()) w' := fun D1 r w' h1 h2 h3 =>
    hJ23 _ _ ⟨by simp, b', c', D1, rfl, h1, by omega, h3.trans hsz⟩
  refine box0 act.1 hb21 (by rfl) ?_
  refine callW_of (pick_calls w9 hk0.1 hk0.2 (by omega)) ?_
  rintro _ w10 ⟨rfl, hw⟩
  obtain rfl : w9 = w10 := hw.symm
  refine ⟨_, rfl, ?_⟩
  have hpr := pick_range act.1 7 (by omega)
  generalize pick act.1 7 = kd at hpr
  refine joinW_s (fun (x : Bool × Unit) w' => x = (decide (kd = 0 ∨ kd = 1), ()) ∧ w' = w9) ?_ ?_
  rotate_left
  · intro J hJ
    refine splitW_i (fun hz => hJ _ _ ⟨?_, rfl⟩) (fun hz => hJ _ _ ⟨?_, rfl⟩)
    · have := beq_iff_eq.1 hz
      subst this
      rfl
    · have hz := beq_eq_false_iff_ne.1 hz
      congr 1
      by_cases h1 : kd = 1
      · subst h1; rfl
      · rw [decide_eq_false (by omega)]
        exact beq_eq_false_iff_ne.2 h1
  rintro _ w10 ⟨rfl, hw⟩
  obtain rfl : w9 = w10 := hw.symm
  dsimp only
  by_cases hk01 : kd = 0 ∨ kd = 1
  · refine splitW_t (decide_eq_true hk01) ?_
    refine boxA (ls := [.int .i64, .int .i64, .int .u8, .int .i64, .int .u32, .slc]) (act.1, act.2.1, (act.2.2.1.toNat : Int), act.2.2.2.1, (act.2.2.2.2.1.toNat : Int), act.2.2.2.2.2, ()) hb21 rfl ?_
    refine box0 size (hb3' hx) (by rfl) ?_
    refine callW_of (bytes_calls act hk3 (size := size) (by omega) (by omega)) ?_
    rintro _ w11 ⟨rfl, he11⟩
    refine ⟨_, rfl, draw_i fun w12 he12 _ _ => ?_⟩
    have he := he11.trans he12
    have hb21 := hb21.ext he
    replace hD := hD.ext he
    replace hO := hO.ext he
    replace hx := hx.trans he
    refine boxF 1 act.2.1 hb21 (by rfl) (boxF 1 act.2.1 hb21 (by rfl) ?_)
    refine callW_of (write_calls hD act.2.1 (actB act size) (by omega)) ?_
    rintro _ w13 ⟨rfl, hst⟩
    have hO' := step_other hO hFG hst
    refine ⟨_, rfl, h1_i (held1F (step_blk hb21 hF21 hst) (by rfl)) ?_⟩
    refine callW_of (rwrite_calls hO' act.2.1 (actB act size) (by omega)) ?_
    rintro _ w14 ⟨rfl, hst2⟩
    exact ⟨_, rfl, fin _ _ w14 (two_both hO hFG hlF hlG hx hst hst2) (wsz _ _) (write_dims _ _ _).1⟩
  refine splitW_f (decide_eq_false hk01) ?_
  refine splitW_i (fun _ => ?_) (fun h2 => ?_)
  · refine boxF 1 act.2.1 hb21 (by rfl) ?_
    refine callW_of (read_calls hD act.2.1) ?_
    rintro _ w11 ⟨rfl, he11⟩
    refine ⟨((D.read act.2.1).1, (D.read act.2.1).2, ()), rfl, boxF 1 act.2.1 (hb21.ext he11) (by rfl) ?_⟩
    refine callW_of (rread_calls (hO.ext he11) act.2.1) ?_
    rintro _ w12 ⟨rfl, he12⟩
    refine ⟨((D.read act.2.1).1, (D.read act.2.1).2, ()), rfl, splitW_t (by rw [str_beq]; exact decide_eq_true rfl) ?_⟩
    exact fin D _ w12 (Two.ext ⟨F, G, hD, hO, hFG, hlF, hlG, hx⟩ (he11.trans he12)) (by omega) rfl
  refine splitW_i (fun _ => ?_) (fun h3 => ?_)
  · refine callW_of (flush_calls hD) ?_
    rintro _ w11 ⟨rfl, hst⟩
    refine ⟨_, rfl, ?_⟩
    refine callW_of (rflush_calls (step_other hO hFG hst)) ?_
    rintro _ w12 ⟨rfl, hst2⟩
    have hfd := flush_dims D
    exact ⟨_, rfl, fin _ _ w12 (two_both hO hFG hlF hlG hx hst hst2) (by omega) hfd.1⟩
  refine splitW_i (fun _ => ?_) (fun h4 => ?_)
  · refine draw_i fun w11 he11 _ _ => ?_
    have hb21 := hb21.ext he11
    replace hD := hD.ext he11
    replace hO := hO.ext he11
    replace hx := hx.trans he11
    refine boxF 1 act.2.1 hb21 (by rfl) (boxF 3 act.2.2.2.1 hb21 (by rfl) (boxF 4 (act.2.2.2.2.1.toNat : Int) hb21 (by rfl) (boxF 1 act.2.1 hb21 (by rfl) (boxF 3 act.2.2.2.1 hb21 (by rfl) (boxF 4 (act.2.2.2.2.1.toNat : Int) hb21 (by rfl) ?_)))))
    refine callW_of (rot_calls hD act.2.1 act.2.2.2.1 act.2.2.2.2.1 hk3.2) ?_
    rintro _ w12 ⟨rfl, hst⟩
    have hb21' := step_blk hb21 hF21 hst
    refine ⟨_, rfl, h3_i (held1F hb21' (by rfl)) (held1F hb21' (by rfl)) (held1F hb21' (by rfl)) ?_⟩
    refine callW_of (rrot_calls (step_other hO hFG hst) act.2.1 act.2.2.2.1 act.2.2.2.2.1 hk3.2) ?_
    rintro _ w13 ⟨rfl, hst2⟩
    refine ⟨_, rfl, fin _ _ w13 (two_both hO hFG hlF hlG hx hst hst2) (by rw [rot_pen]; omega) ?_⟩
    unfold Dev.rot
    split <;> rfl
  refine splitW_i (fun _ => ?_) (fun h5 => ?_)
  · refine boxF 3 act.2.2.2.1 hb21 (by rfl) ?_
    refine callW_of (fuse_calls hD hk3.2) ?_
    rintro _ w11 ⟨rfl, hst⟩
    refine ⟨(), rfl, boxF 3 act.2.2.2.1 (step_blk hb21 hF21 hst) (by rfl) ?_⟩
    refine callW_of (rfuse_calls (step_other hO hFG hst) hk3.2) ?_
    rintro _ w12 ⟨rfl, hst2⟩
    exact ⟨(), rfl, fin _ 0 w12 (two_both hO hFG hlF hlG hx hst hst2) (by dsimp only; omega) rfl⟩
  refine boxF 5 act.2.2.2.2.2 hb21 (by rfl) ?_
  have hp9 := hpkW hx
  refine callW_of (crash_calls hD hp9.1 hp9.2 (by omega) (by omega) (hT.ext (hx3.trans hx))) ?_
  rintro v11 w11 h11
  have he11 : Ext w9 w11 := by
    rcases h11 with ⟨_, b2, _, F2, _, _, h⟩ | ⟨_, _, h⟩
    · exact h
    · exact h
  refine ⟨((match v11 with | .tuple #[.pointer p, _] => p | _ => none), (match v11 with | .tuple #[_, .int _ z] => z | _ => 0), ()), (by rcases h11 with ⟨_, b, rfl, _⟩ | ⟨_, rfl, _⟩ <;> rfl), ?_⟩
  refine boxF 5 act.2.2.2.2.2 (hb21.ext he11) (by rfl) ?_
  have hp11 := hpkW (hx.trans he11)
  refine callW_of (rcrash_calls (hO.ext he11) hp11.1 hp11.2 (by omega) (by omega)) ?_
  rintro v12 w12 h12
  have he12 : Ext w11 w12 := by
    rcases h12 with ⟨_, b2, _, F2, _, _, h⟩ | ⟨_, _, h⟩
    · exact h
    · exact h
  refine ⟨((match v12 with | .tuple #[.pointer p, _] => p | _ => none), (match v12 with | .tuple #[_, .int _ z] => z | _ => 0), ()), (by rcases h12 with ⟨_, b, rfl, _⟩ | ⟨_, rfl, _⟩ <;> rfl), ?_⟩
  have he912 := he11.trans he12
  have hTw12 : Two w3 b' D c' D w12 := Two.ext ⟨F, G, hD, hO, hFG, hlF, hlG, hx⟩ he912
  have imgs : ∀ K : WP, (∀ w', Ext w12 w' → K w') → (callW Tryd.prog 20 [.pointer (some ⟨b', 0, none⟩)] (.one (.one .str)) fun (u58 : ByteArray) => callW Tryd.prog 36 [.pointer (some ⟨c', 0, none⟩)] (.one (.one .str)) fun (u59 : ByteArray) =>
      splitW (!(u58.toList == u59.toList)) (fun w' => Value.bool false = .bool true ∧ Ext w w') K) w12 := by
    intro K hK
    obtain ⟨F2, hD2, _, _⟩ := hTw12.left
    refine callW_of (image_calls hD2) ?_
    rintro _ w13 ⟨rfl, he13⟩
    refine ⟨_, rfl, ?_⟩
    obtain ⟨G2, hO2, _, _⟩ := (hTw12.ext he13).swap.left
    refine callW_of (rimage_calls hO2) ?_
    rintro _ w14 ⟨rfl, he14⟩
    exact ⟨_, rfl, splitW_f (by rw [str_beq, decide_eq_true rfl]; rfl) (hK w14 (he13.trans he14))⟩
  rcases h11 with ⟨hpo, b2, rfl, hN2⟩ | ⟨hno, rfl, _⟩
  · rcases h12 with ⟨_, c2, rfl, hM2⟩ | ⟨hno, _⟩
    rotate_left
    · exact absurd hpo hno
    refine splitW_f (by rfl) (splitW_f (by rfl) (imgs _ fun w13 he13 => splitW_t (by rfl) ?_))
    refine hJ23 _ _ ⟨rfl, b2, c2, D.crashed pk, rfl, ?_, Nat.zero_le _, hsz⟩
    exact (Two.of (hN2.pre hx) hM2).ext he13
  · rcases h12 with ⟨hpo, _⟩ | ⟨_, rfl, _⟩
    · exact absurd hpo hno
    refine splitW_f (by rfl) (splitW_f (by rfl) (imgs _ fun w13 he13 => splitW_f (by rfl) ?_))
    exact hJ23 _ _ ⟨rfl, b', c', D, rfl, hTw12.ext he13, by omega, hsz⟩
end Go.Proofs.YtpbjbhcejgnhiaaDoor.V
