/- Laws DeviceLast, DeviceCrash. -/
import Derived.Test.YtpbjbhcejgnhiaaDoorLC
set_option linter.unusedVariables false
set_option linter.unusedSimpArgs false
namespace Go.Proofs.YtpbjbhcejgnhiaaDoor.V
open Go Go.Proofs Go.RowKit Crc

theorem elem_pick : ElemK Tryd.prog 34 45 (.agg #[.int .i64 0, .int .u64 0]) 2 16 := ⟨by kernel_rfl, by kernel_rfl, by kernel_rfl⟩
theorem times0 (n : Nat) : timesL [0] n = List.replicate n 0 := by
  induction n with
  | zero => rfl
  | succ n ih => rw [List.replicate_succ, ← ih]; simp [timesL, List.replicate_succ]
def wantB (z : Nat) (s : ByteArray) : ByteArray := if B s = [] then zeroB z else s
/-- What was written last, and what a device would be flushed. -/
structure LastSt (z N i : Nat) (D : Dev) (L : List ByteArray) : Prop where
  size : D.size = z
  blocks : D.blocks = N
  fuse : D.fuse = -1
  pen : D.pen.length ≤ i
  len : L.length = N
  all : ∀ k, k < N → wantB z (L.getD k ByteArray.empty) = (D.pen.foldl Go.Proofs.YtpbjbhcejgnhiaaDoor.V.put D.dur).getD k ByteArray.empty
theorem LastSt.write {z N i : Nat} {D : Dev} {L : List ByteArray} (h : LastSt z N i D L) (hok : D.Ok) {k : Int} {s : ByteArray} (hk : 0 ≤ k ∧ k < N) (hs : (s.size : Int) = z) (hz : 0 < z) :
    (D.write k s).2 = 0 ∧ LastSt z N (i + 1) (D.write k s).1 (L.set k.toNat s) := by
  obtain ⟨g1, g2, g3, g4, g5, g6⟩ := h
  have hd := hok.dims
  rw [write_res (by rw [g2]; exact hk) (by rw [g1]; exact hs), if_neg (by omega)]
  refine ⟨rfl, g1, g2, ?_, ?_, by rw [List.length_set]; exact g5, fun j hj => ?_⟩
  · show max (-1) (D.fuse - 1) = -1
    omega
  · show (D.pen ++ [(k, s)]).length ≤ i + 1
    simp; omega
  · show wantB z ((L.set k.toNat s).getD j ByteArray.empty) = ((D.pen ++ [(k, s)]).foldl Go.Proofs.YtpbjbhcejgnhiaaDoor.V.put D.dur).getD j ByteArray.empty
    rw [List.foldl_append]
    show _ = (Go.Proofs.YtpbjbhcejgnhiaaDoor.V.put (D.pen.foldl Go.Proofs.YtpbjbhcejgnhiaaDoor.V.put D.dur) (k, s)).getD j ByteArray.empty
    unfold Go.Proofs.YtpbjbhcejgnhiaaDoor.V.put
    have hl := puts_len D.pen D.dur
    unfold Go.Proofs.YtpbjbhcejgnhiaaDoor.V.put at hl
    rw [getD_set, getD_set, hl]
    by_cases hkj : k.toNat = j
    · rw [if_pos ⟨hkj, by omega⟩, if_pos ⟨hkj, by omega⟩]
      unfold wantB
      rw [if_neg]
      intro e
      rw [B_size, e] at hs
      simp at hs
      omega
    · rw [if_neg (fun x => hkj x.1), if_neg (fun x => hkj x.1)]
      exact g6 j hj
theorem LastSt.flush {z N i : Nat} {D : Dev} {L : List ByteArray} (h : LastSt z N i D L) : D.flush.2 = 0 ∧ LastSt z N i D.flush.1 L := by
  obtain ⟨g1, g2, g3, g4, g5, g6⟩ := h
  unfold Dev.flush
  rw [if_neg (by omega)]
  refine ⟨rfl, g1, g2, ?_, Nat.zero_le _, g5, g6⟩
  show max (-1) (D.fuse - 1) = -1
  omega
theorem last_calls {w : World} (hT : DeB w) {size blocks : Int} (hs : I64 size) (hbk : I64 blocks) {A : Option Addr} {n c : Nat} {acts : List ActV} (ha : Sli actE w A n acts) (hq : ∀ a ∈ acts, actQ w a) :
    Calls Tryd.prog 3 #[.agg #[.int .i64 size, .int .i64 blocks], .slice A n c] w (Ret fun v w' => v = .bool true ∧ Ext w w') := by
  apply calls3
  unfold S3
  refine new_i fun r1 w1 hb1 he1 hr1 hz1 => ?_
  have hb1 : Blk w1 r1 [.int .i64 size, .int .i64 blocks] 23 := hb1
  refine callW_of (lives_calls (hT.ext he1)) ?_
  rintro _ w2 ⟨rfl, he2⟩
  refine ⟨_, rfl, splitW_f (by rfl) ?_⟩
  have hb2 := hb1.ext he2
  have hx2 := he1.trans he2
  refine boxA (ls := [.int .i64, .int .i64]) (size, blocks, ()) hb2 rfl ?_
  refine callW_of (dnew_calls w2 size blocks) ?_
  rintro v3 w3 h3
  have hx23 : Ext w2 w3 := by
    rcases h3 with ⟨_, b, _, F, _, _, h⟩ | ⟨_, _, h⟩
    · exact h
    · exact h
  have hb3 := hb2.ext hx23
  have hx3 := hx2.trans hx23
  have hlight := fun w => lightgeo_calls w size blocks
  rcases h3 with ⟨hok, b, rfl, hN⟩ | ⟨hok, rfl, _⟩
  rotate_left
  · refine ⟨(none, 2, ()), rfl, ?_⟩
    refine boxA (ls := [.int .i64, .int .i64]) (size, blocks, ()) hb3 rfl ?_
    refine callW_of (hlight w3) ?_
    rintro _ w4 ⟨rfl, he4⟩
    have hx4 := hx3.trans he4
    refine ⟨_, rfl, splitW_i (fun _ => ⟨rfl, hx4⟩) (fun _ => splitW_i (fun _ => ⟨rfl, hx4⟩) (fun _ => splitW_t (by rfl) ⟨rfl, hx4⟩))⟩
  refine ⟨(some ⟨b, 0, none⟩, 0, ()), rfl, ?_⟩
  refine boxA (ls := [.int .i64, .int .i64]) (size, blocks, ()) hb3 rfl ?_
  refine callW_of (hlight w3) ?_
  rintro _ w4 ⟨rfl, he4⟩
  have hx4 := hx3.trans he4
  have hb4 := hb3.ext he4
  replace hN : DevNew w2 (dev0 size blocks) b w4 := hN.ext he4
  refine ⟨_, rfl, splitW_i (fun _ => ⟨rfl, hx4⟩) (fun hl => splitW_i (fun _ => ⟨rfl, hx4⟩) (fun hn => splitW_f (by rfl) ?_))⟩
  have hn := of_decide_eq_false hn
  have hg := geo_dims hok
  obtain ⟨N, rfl⟩ : ∃ N : Nat, blocks = N := ⟨blocks.toNat, by omega⟩
  obtain ⟨z, rfl⟩ : ∃ z : Nat, size = z := ⟨size.toNat, by omega⟩
  refine boxF 1 (N : Int) hb4 (by rfl) ?_
  refine make_own (z := .string ByteArray.empty) elem_strS (by rfl) (Nat.le_refl _) (by omega) (by omega) ?_
  intro w5 ho5 hg5
  have he5 : Ext w4 w5 := (Ext.refl w4).none hg5
  have ho5 : Owni strE 9 w5 w4.heap.size (some ⟨w4.heap.size, 0, none⟩) N N (List.replicate N ByteArray.empty) := by
    have e : List.replicate N (Value.string ByteArray.empty) = strE.flat (List.replicate N ByteArray.empty) := by rw [strE_flat]; simp
    rw [e] at ho5
    exact ho5
  have hS0 : LastSt z N 0 (dev0 z N) (List.replicate N ByteArray.empty) := ⟨rfl, rfl, rfl, Nat.le_refl _, by simp, fun k hk => by
    show wantB z ((List.replicate N ByteArray.empty).getD k ByteArray.empty) = (List.replicate (N : Int).toNat (zeroB (z : Int).toNat)).getD k ByteArray.empty
    rw [List.getD_eq_getElem?_getD, List.getD_eq_getElem?_getD, List.getElem?_replicate, List.getElem?_replicate, if_pos hk, if_pos (by omega), Int.toNat_natCast]
    rfl⟩
  generalize hrl : w4.heap.size = rl at ho5
  obtain ⟨F, hD, hlo, hx⟩ := hN
  have hFl : ¬ F rl := fun hf => by have := hD.lt _ hf; omega
  replace hD := hD.ext he5
  replace hx := hx.trans he5
  replace ho5 := ho5.lower (Nat.zero_le _)
  have hrl2 : w2.heap.size ≤ rl := by have := hx23.size; have := he4.size; omega
  have hact : ∀ {w' : World} {i : Nat}, Ext w2 w' → i < n → ∃ p, A = some p ∧ (p.add (i * 6)).spot = none ∧ CellsAt w' (p.add (i * 6)) 0 (actE.f (acts.getD i a00)) ∧ actQ w (acts.getD i a00) := fun he hi => by
    obtain ⟨p, e1, e2, e3, e4⟩ := act_at ha hi
    exact ⟨p, e1, e2, cellsAt_ext (hx2.trans he) e3, hq _ e4⟩
  let St : World → Nat → Dev → List ByteArray → Prop := fun w' i D L => ∃ F : Nat → Prop, DevAt w' b D F ∧ (∀ k, F k → w2.heap.size ≤ k) ∧ Ext w2 w' ∧ ¬ F rl ∧ Owni strE 9 w' 0 (some ⟨rl, 0, none⟩) N N L ∧ LastSt z N i D L
  have stE : ∀ {w' w'' : World} {i : Nat} {D : Dev} {L : List ByteArray}, St w' i D L → Ext w' w'' → St w'' i D L := fun ⟨F, q1, q2, q3, q4, q5, q6⟩ he => ⟨F, q1.ext he, q2, q3.trans he, q4, q5.ext he, q6⟩
  have stS : ∀ {w' w'' : World} {i j : Nat} {D D' : Dev} {L L' : List ByteArray} {F : Nat → Prop}, DevAt w' b D F → (∀ k, F k → w2.heap.size ≤ k) → Ext w2 w' → ¬ F rl → Owni strE 9 w' 0 (some ⟨rl, 0, none⟩) N N L → Step w' b F D' w'' → LastSt z N j D' L → St w'' j D' L := by
    intro w' w'' i j D D' L L' F q1 q2 q3 q4 q5 q6 q7
    obtain ⟨F', s1, s2, s3⟩ := q6
    refine ⟨F', s1, fun k hk => ?_, Ext.only' q3 s3 q2, fun hf => ?_, q5.only s3 (fun j hj hf => by injection hj with hj; subst hj; exact q4 hf), q7⟩
    · rcases s2 k hk with x | x
      · exact q2 k x
      · have := q3.size; omega
    · rcases s2 rl hf with x | x
      · exact q4 x
      · have := q5.row_lt rl rfl; omega
  refine loopW_i (fun y w' => ∃ (i : Nat) (D : Dev) (L : List ByteArray), i ≤ n ∧ y = ((i : Int), ()) ∧ St w' i D L) (fun y => (n - y.1).toNat) ⟨0, _, _, by omega, rfl, F, hD, hlo, hx, hFl, ho5, hS0⟩ ?_
  clear hD hlo hx hFl ho5 hS0 F
  rintro _ w6 ⟨i, D, L, hi, rfl, hst⟩
  dsimp only
  by_cases hlt : i < n
  · refine splitW_t (decide_eq_true (by omega)) ?_
    refine draw_i fun w7 he7 _ _ => ?_
    obtain ⟨F, hD, hlo, hx, hFl, ho, hS⟩ := stE hst he7
    obtain ⟨p, ep, hps, hpc, hk0, hk1, hk3, _⟩ := hact hx hlt
    subst ep
    generalize acts.getD i a00 = act at hpc hk0 hk1 hk3
    refine guard_i (by omega) (ptr_i ?_)
    rw [Int.toNat_natCast]
    refine ld_i (l := .int .i64) (x := act.2.1) (act_f hps hpc 1 rfl) ?_
    refine boxF 1 (N : Int) (hb2.ext hx) (by rfl) ?_
    refine callW_of (pick_calls w7 hk1.1 hk1.2 (by omega)) ?_
    rintro _ w8 ⟨rfl, hw⟩
    obtain rfl : w7 = w8 := hw.symm
    refine ⟨_, rfl, ?_⟩
    have hpk := pick_range act.2.1 N (by omega)
    generalize pick act.2.1 (N : Int) = pk at hpk
    refine draw_i fun w8 he8 _ _ => ?_
    replace hpc := cellsAt_ext he8 hpc
    replace hD := hD.ext he8
    replace hx := hx.trans he8
    replace ho := ho.ext he8
    refine guard_i (by omega) (ptr_i ?_)
    refine ldA_i (ls := [.int .i64, .int .i64, .int .u8, .int .i64, .int .u32, .slc]) (x := (act.1, act.2.1, (act.2.2.1.toNat : Int), act.2.2.2.1, (act.2.2.2.2.1.toNat : Int), act.2.2.2.2.2, ())) hpc ?_
    refine box0 (z : Int) (hb2.ext hx) (by rfl) ?_
    refine callW_of (bytes_calls act hk3 (size := (z : Int)) (by omega) (by omega)) ?_
    rintro _ w9 ⟨rfl, he9⟩
    refine ⟨_, rfl, ?_⟩
    replace hpc := cellsAt_ext he9 hpc
    replace hD := hD.ext he9
    replace hx := hx.trans he9
    replace ho := ho.ext he9
    have hsz := actB_size act (size := (z : Int)) (by omega)
    generalize actB act (z : Int) = s at hsz
    refine idx_setS ho hpk.1 hpk.2 ?_
    intro w10 ho10 hg10
    have hO10 : Only (fun k => k = rl) w9 w10 := Only.of_grown hg10 (fun j hj => by injection hj with hj; exact .inl hj.symm)
    replace hD := hD.apart hO10 (fun j hj e => hFl (e ▸ hj))
    have hx0 := hx
    replace hx : Ext w2 w10 := Ext.only' hx hO10 (fun j hj => by omega)
    refine idx_str ho10.sl hpk.1 hpk.2 ?_
    have hLl := hS.len
    rw [getD_set, if_pos ⟨rfl, by omega⟩]
    obtain ⟨hw1, hw2⟩ := hS.write hD.ok hpk hsz (by omega)
    have hS' : LastSt z N (i + 1) D (L.set pk.toNat s) → True := fun _ => trivial
    refine callW_of (write_calls hD pk s (by have := hS.pen; omega)) ?_
    rw [hw1]
    rintro _ w11 ⟨rfl, hstep⟩
    refine ⟨_, rfl, splitW_f (by rfl) ?_⟩
    have hst11 : St w11 (i + 1) (D.write pk s).1 (L.set pk.toNat s) := stS (i := i) (L' := L) hD hlo hx hFl ho10 hstep hw2
    have hx11 : Ext w2 w11 := by obtain ⟨_, _, _, q, _⟩ := hst11; exact q
    obtain ⟨p', ep', hps', hpc', _⟩ := hact hx11 hlt
    have next : ∀ w' D', St w' (i + 1) D' (L.set pk.toNat s) → (∃ (j : Nat) (D : Dev) (L : List ByteArray), j ≤ n ∧ (IntKind.wrap .i64 ((i : Int) + 1), ()) = ((j : Int), ()) ∧ St w' j D L) ∧ (n - IntKind.wrap .i64 ((i : Int) + 1)).toNat < ((n : Int) - (i : Int)).toNat := fun w' D' h => by
      rw [wrap_i64 (by omega) (by omega)]
      exact ⟨⟨i + 1, D', _, hlt, rfl, h⟩, by omega⟩
    refine guard_i (by omega) (ptr_i ?_)
    injection ep' with ep'
    subst ep'
    refine ld_i (l := .int .i64) (x := (acts.getD i a00).1) (by have := act_f hps' hpc' 0 (v := .int .i64 (acts.getD i a00).1) rfl; rwa [add_zero] at this) ?_
    refine splitW_i (fun _ => ?_) (fun _ => next w11 _ hst11)
    obtain ⟨F, hD, hlo, hx, hFl, ho, hS⟩ := hst11
    obtain ⟨hf1, hf2⟩ := hS.flush
    refine callW_of (flush_calls hD) ?_
    rw [hf1]
    rintro _ w12 ⟨rfl, hstep⟩
    exact ⟨_, rfl, splitW_f (by rfl) (next w12 _ (stS (i := i) (L' := L) hD hlo hx hFl ho hstep hf2))⟩
  obtain rfl : i = n := by omega
  refine splitW_f (decide_eq_false (by omega)) ?_
  obtain ⟨F, hD, hlo, hx, hFl, ho, hS⟩ := hst
  have hok := hD.ok
  have hdim := hok.dims
  have hpen := hS.pen
  have hsz := hS.size
  have hzn : D.size.toNat = z := by omega
  -- the picks
  refine loopW_i (fun (y : (Option Addr × Nat × Nat) × Int × Unit) w' => ∃ (j : Nat) (X : Option Addr) (cx : Nat), j ≤ D.pen.length ∧ y = ((X, j, cx), (j : Int), ()) ∧ Ext w6 w' ∧ Owni pickE 45 w' w6.heap.size X j cx (allP z j)) (fun y => (D.pen.length - y.2.1).toNat) ⟨0, none, 0, by omega, rfl, Ext.refl _, Owni.nil _ _ _⟩ ?_
  rintro _ w7 ⟨j, X, cx, hj, rfl, he7, hoX⟩
  refine callW_of (pending_calls (hD.ext he7) (by omega)) ?_
  rintro _ w8 ⟨Ap, cp, rfl, _, he8⟩
  refine ⟨(Ap, D.pen.length, cp), rfl, ?_⟩
  dsimp only
  by_cases hjl : j < D.pen.length
  · refine splitW_t (decide_eq_true (by omega)) ?_
    have hx8 := (hx.trans he7).trans he8
    refine box0 (z : Int) (hb2.ext hx8) (by rfl) ?_
    have ez : IntKind.wrap .u64 (IntKind.wrap .i64 (Int.tdiv (z : Int) 64)) = ((z / 64 : Nat) : Int) := by
      rw [Int.tdiv_eq_ediv_of_nonneg (by omega), wrap_i64 (by omega) (by omega), wrap_u64]
      omega
    rw [ez]
    refine guard_i (by omega) ?_
    have e2 : IntKind.wrap .u64 (ishl .u64 1 ((z / 64 : Nat) : Int) - 1) = ((2 ^ (z / 64) - 1 : Nat) : Int) := by
      have hz8 : lightGeo (z : Int) (N : Int) = true := by simpa using hl
      have hz512 : z ≤ 512 := by
        unfold lightGeo at hz8
        rw [if_neg (by omega)] at hz8
        have := of_decide_eq_true hz8
        omega
      have h1 := ishl_nat (k := .u64) (by rfl) 1 (z / 64) (by show z / 64 ≤ 64; omega)
      have hp : 2 ^ (z / 64) ≤ 2 ^ 8 := Nat.pow_le_pow_right (by decide) (by omega)
      have hp0 := Nat.two_pow_pos (z / 64)
      rw [Nat.one_mul, Nat.mod_eq_of_lt (by show _ < 2 ^ 64; omega)] at h1
      rw [show ((1 : Int)) = ((1 : Nat) : Int) by rfl, h1, wrap_u64]
      omega
    rw [e2]
    refine append_newi (E := pickE) (ys := [((j : Int), 2 ^ (z / 64) - 1)]) (by rfl) rfl elem_pick (hoX.ext he8) (by have := he7.size; have := he8.size; omega) (by omega) (by omega) ?_
    intro X' cx' w9 ho9 hg9
    rw [← allP_succ] at ho9
    refine ⟨⟨j + 1, X', cx', hjl, by rw [wrap_i64 (by omega) (by omega)]; rfl, (he7.trans he8).grown hg9.1 (fun k hk => hoX.row k hk), ho9⟩, by rw [wrap_i64 (by omega) (by omega)]; omega⟩
  obtain rfl : j = D.pen.length := by omega
  refine splitW_f (decide_eq_false (by omega)) ?_
  have he68 := he7.trans he8
  replace hx := hx.trans he68
  replace hD := hD.ext he68
  replace ho := ho.ext he68
  have hpk : D.pickOK (allP z D.pen.length) := by have := allP_ok hok; rwa [hzn] at this
  refine callW_of (crash_ok hD hpk (hoX.ext he8).sl (fun p hp => ?_) (by omega) (by omega) (hT.ext (hx2.trans hx))) ?_
  · obtain ⟨i', hi', rfl⟩ := List.mem_map.1 hp
    have h1 := (hpk.1 _ hp).2.2
    have hs64 : D.secs ≤ 64 := by unfold Dev.secs; omega
    have h2 : 2 ^ D.secs ≤ 2 ^ 64 := Nat.pow_le_pow_right (by decide) hs64
    rw [Nat.div_eq_zero_iff] at h1
    have := Nat.two_pow_pos D.secs
    dsimp only at h1 ⊢
    omega
  rintro _ w9 ⟨c', rfl, hN9⟩
  refine ⟨(some ⟨c', 0, none⟩, 0, ()), rfl, splitW_f (by rfl) ?_⟩
  have hx9' : Ext w8 w9 := by obtain ⟨_, _, _, q⟩ := hN9; exact q
  have hTw := Two.of ⟨F, hD, hlo, hx⟩ hN9
  have hcd : (D.crashed (allP z D.pen.length)).dur = D.pen.foldl Go.Proofs.YtpbjbhcejgnhiaaDoor.V.put D.dur := by have := all_crash hok; rwa [hzn] at this
  replace ho := ho.ext hx9'
  have hcp : (D.crashed (allP z D.pen.length)).pen = [] := rfl
  have hcb : (D.crashed (allP z D.pen.length)).blocks = D.blocks := rfl
  generalize D.crashed (allP z D.pen.length) = C at hTw hcd hcp hcb
  have hDb := hS.blocks
  refine loopW_i (fun (y : Int × Unit) w' => ∃ (j : Nat), j ≤ N ∧ y = ((j : Int), ()) ∧ Ext w9 w') (fun y => (N - y.1).toNat) ⟨0, by omega, rfl, Ext.refl _⟩ ?_
  rintro _ w10 ⟨j, hj, rfl, he10⟩
  have hTw10 := hTw.ext he10
  have hx10 : Ext w2 w10 := hTw10.left.choose_spec.2.2
  refine boxF 1 (N : Int) (hb2.ext hx10) (by rfl) ?_
  dsimp only
  by_cases hjl : j < N
  · refine splitW_t (decide_eq_true (by omega)) ?_
    refine idx_str (ho.ext he10).sl (by omega) (by omega) ?_
    rw [Int.toNat_natCast]
    have hall := hS.all j hjl
    generalize hL : L.getD j ByteArray.empty = s at hall
    refine joinW_s (fun (x : ByteArray × Unit) w' => x.1 = wantB z s ∧ w' = w10) ?_ ?_
    · rintro ⟨x, _⟩ w11 ⟨hx11, hw⟩
      subst hw
      dsimp only at hx11 ⊢
      subst hx11
      obtain ⟨F1, hD1, _, _⟩ := hTw10.left
      refine callW_of (read_calls hD1 (j : Int)) ?_
      have hrd : D.read (j : Int) = (wantB z s, 0) := by
        unfold Dev.read
        rw [if_neg (fun x => x ⟨by omega, by omega⟩), Int.toNat_natCast, hall]
      rw [hrd]
      rintro _ w12 ⟨rfl, he12⟩
      refine ⟨(wantB z s, 0, ()), rfl, ?_⟩
      obtain ⟨F2, hD2, _, _⟩ := (hTw10.ext he12).swap.left
      refine callW_of (read_calls hD2 (j : Int)) ?_
      have hrc : C.read (j : Int) = (wantB z s, 0) := by
        unfold Dev.read
        rw [if_neg (fun x => x ⟨by omega, by omega⟩), Int.toNat_natCast, hcp, List.foldl_nil, hcd, hall]
      rw [hrc]
      rintro _ w13 ⟨rfl, he13⟩
      refine ⟨(wantB z s, 0, ()), rfl, splitW_f (by rfl) (splitW_f (by rfl) (splitW_f (by rw [str_beq, decide_eq_true rfl]; rfl) (splitW_f (by rw [str_beq, decide_eq_true rfl]; rfl) ?_)))⟩
      rw [wrap_i64 (by omega) (by omega)]
      exact ⟨⟨j + 1, hjl, rfl, (he10.trans he12).trans he13⟩, by omega⟩
    · intro J hJ
      rw [str_beq]
      refine splitW_i (fun hz => ?_) (fun hz => ?_)
      · have hz : B s = [] := of_decide_eq_true hz
        refine box0 (z : Int) (hb2.ext hx10) (by rfl) ?_
        refine callW_of (full_calls w10 (ByteArray.mk #[0]) (n := (z : Int)) (by omega) (by show 1 * _ ≤ _; omega) (by decide)) ?_
        rintro _ w11 ⟨rfl, hw⟩
        refine ⟨_, rfl, hJ _ _ ⟨?_, hw⟩⟩
        unfold wantB
        rw [if_pos hz, Int.toNat_natCast]
        show mkB (timesL [0] z) = zeroB z
        rw [times0]
        rfl
      · have hz : ¬ B s = [] := of_decide_eq_false hz
        refine hJ _ _ ⟨?_, rfl⟩
        unfold wantB
        rw [if_neg hz]
  obtain rfl : j = N := by omega
  refine splitW_f (decide_eq_false (by omega)) ?_
  obtain ⟨F1, G1, hD1, hC1, hFG, hlF, hlG, hxx⟩ := hTw10
  refine callW_of (flush_calls hD1) ?_
  rintro _ w11 ⟨rfl, hstep⟩
  refine ⟨_, rfl, ?_⟩
  have hTw11 := Two.step hC1 hFG hlF hlG hxx hstep
  obtain ⟨F2, hD2, _, hx2'⟩ := hTw11.left
  refine callW_of (image_calls hD2) ?_
  rintro _ w12 ⟨rfl, he12⟩
  refine ⟨_, rfl, ?_⟩
  obtain ⟨F3, hD3, _, hx3'⟩ := (hTw11.ext he12).swap.left
  refine callW_of (image_calls hD3) ?_
  rintro _ w13 ⟨rfl, he13⟩
  refine ⟨_, rfl, ?_, hx2.trans (hx3'.trans he13)⟩
  have hfin : D.flush.1.image = C.image := by
    unfold Dev.flush
    rw [if_neg (by rw [hS.fuse]; decide)]
    show (D.pen.foldl Go.Proofs.YtpbjbhcejgnhiaaDoor.V.put D.dur).flatMap B = C.dur.flatMap B
    rw [hcd]
  rw [hfin, str_beq, decide_eq_true rfl]
end Go.Proofs.YtpbjbhcejgnhiaaDoor.V
