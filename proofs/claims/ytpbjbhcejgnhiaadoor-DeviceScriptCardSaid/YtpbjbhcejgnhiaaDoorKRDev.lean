/- Contracts of ref03's devices. -/
import Derived.Test.YtpbjbhcejgnhiaaDoorLC
set_option linter.unusedVariables false
set_option linter.unusedSimpArgs false
namespace Go.Proofs.YtpbjbhcejgnhiaaDoor.V
open Go Go.Proofs Go.RowKit Crc

theorem bV_zeros (n : Nat) : List.replicate n (Value.int .u8 0) = bV (List.replicate n 0) := by simp [bV]
theorem rnew_calls (w : World) (size blocks : Int) :
    Calls Tryd.prog 28 #[.agg #[.int .i64 size, .int .i64 blocks]] w (Ret fun v w' => (geoOK size blocks = true ∧ ∃ b, v = .tuple #[.pointer (some ⟨b, 0, none⟩), .int .i64 0] ∧ DevNew w (dev0 size blocks) b w') ∨ (geoOK size blocks = false ∧ v = .tuple #[.pointer none, .int .i64 2] ∧ Ext w w')) := by
  apply calls28
  unfold S28
  refine new_i fun r1 w1 hb1 he1 hr1 hz1 => ?_
  have hb1 : Blk w1 r1 [.int .i64 size, .int .i64 blocks] 23 := hb1
  refine boxA (ls := [.int .i64, .int .i64]) (size, blocks, ()) hb1 rfl ?_
  refine callW_of (refcheck_calls w1 size blocks) ?_
  rintro _ w2 ⟨rfl, he2⟩
  refine ⟨_, rfl, ?_⟩
  have hb2 := hb1.ext he2
  cases hok : geoOK size blocks with
  | false => exact splitW_t (by rfl) (.inr ⟨rfl, rfl, he1.trans he2⟩)
  | true =>
    have hg := geo_dims hok
    refine splitW_f (by rfl) ?_
    refine boxA (ls := [.int .i64, .int .i64]) (size, blocks, ()) hb2 rfl ?_
    refine new_i fun r5 w3 hb5 he3 hr5 hz5 => ?_
    have hb5 : Blk w3 r5 [.int .i64 size, .int .i64 blocks, .slice none 0 0, .slice none 0 0, .int .i64 0, .int .i64 (-1)] 70 := hb5
    have hb3 := hb2.ext he3
    have hall := (he1.trans he2).trans he3
    obtain ⟨N, rfl⟩ : ∃ N : Nat, blocks = N := ⟨blocks.toNat, by omega⟩
    obtain ⟨z, rfl⟩ : ∃ z : Nat, size = z := ⟨size.toNat, by omega⟩
    refine box0 (z : Int) hb3 (by rfl) ?_
    refine make_own (z := .int .u8 0) elem_u8 (by rfl) (Nat.le_refl _) (by omega) (by omega) ?_
    intro w4 ho4 hg4
    rw [bV_zeros] at ho4
    have he4 : Ext w3 w4 := (Ext.refl w3).none hg4
    refine conv_str (bs := List.replicate z 0) (e := 5) (by kernel_rfl) (by kernel_rfl) (by kernel_rfl) ho4.sl ?_
    have hz : (⟨(List.replicate z (0 : UInt8)).toArray⟩ : ByteArray) = zeroB z := rfl
    rw [hz]
    have hb5 := hb5.ext he4
    have hb4 := hb3.ext he4
    have hx4 := hall.trans he4
    refine loopW_i (fun y w' => ∃ (i : Nat) (A : Option Addr) (c : Nat), i ≤ N ∧ y = ((i : Int), ()) ∧ Blk w' r5 [.int .i64 z, .int .i64 N, .slice A i c, .slice none 0 0, .int .i64 0, .int .i64 (-1)] 70 ∧ Blk w' r1 [.int .i64 z, .int .i64 N] 23
      ∧ Owni strE 9 w' w4.heap.size A i c (List.replicate i (zeroB z)) ∧ Ext w w' ∧ w4.heap.size ≤ w'.heap.size) (fun y => (N - y.1).toNat) ⟨0, none, 0, by omega, rfl, hb5, hb4, Owni.nil _ _ _, hx4, Nat.le_refl _⟩ ?_
    rintro _ w5 ⟨i, A, c, hi, rfl, hb5, hb1, ho, hx, hs5⟩
    dsimp only
    refine boxF 1 (N : Int) hb1 (by rfl) ?_
    have hr5lt : r5 < w4.heap.size := by have := he4.size; omega
    have hr1lt : r1 < w4.heap.size := by have := he4.size; have := he2.size; have := he3.size; omega
    have hs4 := hx4.size
    by_cases hlt : i < N
    · refine splitW_t (decide_eq_true (by omega)) ?_
      refine ptr_i (boxF 2 (A, i, c) hb5 (by rfl) ?_)
      dsimp only
      refine append_newi (E := strE) (ys := [zeroB z]) (by rfl) rfl elem_strK' ho (by omega) (by omega) (by omega) ?_
      intro A' c' w7 ho7 hg7
      have hbl : ∀ j, orow A = some j → w4.heap.size ≤ j := ho.row
      have hb5 := hb5.grown hg7.1 (fun e => by have := hbl r5 e.symm; omega)
      have hb1 := hb1.grown hg7.1 (fun e => by have := hbl r1 e.symm; omega)
      have hx := hx.grown hg7.1 (fun j hj => by have := hbl j hj; omega)
      have hs7 := hg7.1.size
      refine ptr_i ?_
      rw [add_mk]
      refine stW_blk hb5 (by show 0 + 2 < 6; omega) ?_
      have hg8 := set_grown w7 r5 (0 + 2) (.slice A' (i + 1) c')
      have hb5 := hb5.set (0 + 2) (.slice A' (i + 1) c')
      have hb1 := hb1.grown hg8 (fun e => by injection e with e; have := hb2.lt; omega)
      have hx := hx.grown hg8 (fun j hj => by injection hj with hj; have := (he1.trans he2).size; omega)
      have ho8 := ho7.grown hg8 (fun j hj e => by injection hj with hj; subst hj; have := ho7.row _ e; omega)
      rw [wrap_i64 (by omega) (by omega)]
      refine ⟨⟨i + 1, A', c', hlt, rfl, hb5, hb1, by rw [List.replicate_succ']; exact ho8, hx, Nat.le_trans (by omega) hg8.size⟩, ?_⟩
      omega
    · obtain rfl : i = N := by omega
      refine splitW_f (decide_eq_false (by omega)) ?_
      have hne : orow A ≠ some r5 := fun e => by have := ho.row _ e; omega
      refine .inl ⟨rfl, r5, rfl, _, devAt_new (d := dev0 z i) hb5 (by show Owni _ _ _ _ _ _ _ (List.replicate (i : Int).toNat (zeroB (z : Int).toNat)); rw [Int.toNat_natCast, Int.toNat_natCast]; exact ho.lower (Nat.zero_le _)) rfl hne (dev0_ok hok), ?_, hx⟩
      rintro k (rfl | hk | hk)
      · have := (he1.trans he2).size; omega
      · have := ho.row k hk
        omega
      · cases hk
theorem rburn_calls {w : World} {b : Nat} {d : Dev} {F : Nat → Prop} (h : DevAt w b d F) :
    Calls Tryd.prog 51 #[.pointer (some ⟨b, 0, none⟩)] w (Ret fun v w' => (d.fuse = 0 ∧ v = .bool false ∧ w' = w) ∨ (d.fuse ≠ 0 ∧ v = .bool true ∧ DevAt w' b d.burnt F ∧ w.grownBy w' (some b))) := by
  obtain ⟨Ad, Ap, nd, cd, np, cp, t, hb, hd, hp, hF, h1, h2, h3⟩ := h.mem
  have hf := h.ok.fuse
  apply calls51
  unfold S51
  refine ptr_i (boxF 5 d.fuse hb (by rfl) (splitW_i (fun hz => .inl ⟨beq_iff_eq.1 hz, rfl, rfl⟩) (fun hz => ?_)))
  have hz := beq_eq_false_iff_ne.1 hz
  refine ptr_i (boxF 5 d.fuse hb (by rfl) (splitW_i (fun hp0 => ?_) (fun hp0 => ?_)))
  · have hp0 := of_decide_eq_true hp0
    refine ptr_i (boxF 5 d.fuse hb (by rfl) (ptr_i ?_))
    have ef : IntKind.wrap .i64 (d.fuse - 1) = max (-1) (d.fuse - 1) := by rw [wrap_i64 (by omega) (by omega)]; omega
    rw [ef, add_mk]
    refine stW_blk hb (by show 0 + 5 < 6; omega) ?_
    have hg1 := set_grown w b (0 + 5) (.int .i64 (max (-1) (d.fuse - 1)))
    have hD := h.put (d' := { d with fuse := max (-1) (d.fuse - 1) }) (o := 0 + 5) (v := .int .i64 (max (-1) (d.fuse - 1))) (fun _ _ _ _ _ _ => rfl) rfl rfl ⟨h.ok.geo, h.ok.len, h.ok.each, h.ok.pend, by dsimp only; omega⟩
    have hb1 := hb.set (0 + 5) (.int .i64 (max (-1) (d.fuse - 1)))
    generalize w.setCell ⟨b, 0 + 5, none⟩ (.int .i64 (max (-1) (d.fuse - 1))) = w1 at hg1 hD hb1 ⊢
    refine ptr_i (boxF 4 d.ops hb1 (by rfl) (ptr_i ?_))
    rw [add_mk]
    refine stW_blk hb1 (by show 0 + 4 < 6; omega) ?_
    have hg2 := set_grown w1 b (0 + 4) (.int .i64 (IntKind.wrap .i64 (d.ops + 1)))
    have hD2 := hD.put (d' := d.burnt) (o := 0 + 4) (v := .int .i64 (IntKind.wrap .i64 (d.ops + 1))) (fun _ _ _ _ _ _ => rfl) rfl rfl h.ok.burnt
    exact .inr ⟨hz, rfl, hD2, grownBy_tr hg1 hg2 (fun j hj => .inl hj)⟩
  · have hp0 := of_decide_eq_false hp0
    have hfm : max (-1) (d.fuse - 1) = d.fuse := by omega
    refine ptr_i (boxF 4 d.ops hb (by rfl) (ptr_i ?_))
    rw [add_mk]
    refine stW_blk hb (by show 0 + 4 < 6; omega) ?_
    have hg2 := set_grown w b (0 + 4) (.int .i64 (IntKind.wrap .i64 (d.ops + 1)))
    have hD2 := h.put (d' := d.burnt) (o := 0 + 4) (v := .int .i64 (IntKind.wrap .i64 (d.ops + 1))) (fun Ad nd cd Ap np cp => by show _ = [Value.int .i64 d.size, .int .i64 d.blocks, .slice Ad nd cd, .slice Ap np cp, .int .i64 (IntKind.wrap .i64 (d.ops + 1)), .int .i64 (max (-1) (d.fuse - 1))]; rw [hfm]; rfl) rfl rfl h.ok.burnt
    exact .inr ⟨hz, rfl, hD2, hg2⟩
theorem rwrite_calls {w : World} {b : Nat} {d : Dev} {F : Nat → Prop} (h : DevAt w b d F) (k : Int) (s : ByteArray) (hn : d.pen.length ≤ 1000000) :
    Calls Tryd.prog 30 #[.pointer (some ⟨b, 0, none⟩), .int .i64 k, .string s] w (Ret fun v w' => v = .int .i64 (d.write k s).2 ∧ Step w b F (d.write k s).1 w') := by
  have stay : ∀ {w' : World}, w' = w → Step w b F d w' := fun e => by subst e; exact ⟨F, h, fun k hk => .inl hk, Only.refl F _⟩
  apply calls30
  unfold S30 Dev.write
  obtain ⟨Ad, Ap, nd, cd, np, cp, t, hb, hd, hp, hF, h1, h2, h3⟩ := h.mem
  refine splitW_i (fun hz => ?_) (fun hz0 => ?_)
  · rw [if_pos (.inl (by have := of_decide_eq_true hz; omega))]
    exact ⟨rfl, stay rfl⟩
  have hz0 := of_decide_eq_false hz0
  refine ptr_i (boxF 1 d.blocks hb (by rfl) (splitW_i (fun hz => ?_) (fun hz1 => ?_)))
  · rw [if_pos (.inl (by have := of_decide_eq_true hz; omega))]
    exact ⟨rfl, stay rfl⟩
  have hz1 := of_decide_eq_false hz1
  have hth : 0 ≤ k ∧ k < d.blocks := by omega
  refine ptr_i (box0 d.size hb (by rfl) (splitW_i (fun hz => ?_) (fun hz => ?_)))
  · rw [if_pos (.inr (bne_iff_ne.1 hz))]
    exact ⟨rfl, stay rfl⟩
  have hsz := bne_eq_false_iff_eq.1 hz
  rw [if_neg (by rintro (x | x); exact x hth; exact x hsz)]
  refine callW_of (rburn_calls h) ?_
  rintro _ w2 (⟨hz, rfl, hw⟩ | ⟨hz, rfl, hD, hg⟩)
  · refine ⟨_, rfl, splitW_t (by rfl) ?_⟩
    rw [if_pos hz]
    exact ⟨rfl, stay hw⟩
  refine ⟨_, rfl, splitW_f (by rfl) ?_⟩
  rw [if_neg hz]
  obtain ⟨Ad, Ap, nd, cd, np, cp, t, hb, hd, hp, hF, h1, h2, h3⟩ := hD.mem
  have hlp := hp.len
  have hlp2 : d.burnt.pen = d.pen := rfl
  refine ptr_i (boxF 3 (Ap, np, cp) hb (by rfl) ?_)
  refine append_newi (E := writeE) (ys := [(k, s)]) (by rfl) rfl elem_write hp (Nat.zero_le _) (by dsimp only; rw [hlp2] at hlp; omega) (by omega) ?_
  intro A' c' w3 hp3 hg3
  have hb3 := hb.grown hg3.grown (fun e => h2 e.symm)
  have hd3 := hd.grown hg3.grown (fun j hj e => h3 j e hj)
  refine ptr_i ?_
  rw [add_mk]
  refine stW_blk hb3 (by show 0 + 3 < 6; omega) ?_
  have hg4 := set_grown w3 b (0 + 3) (.slice A' (np + 1) c')
  have hb4 := hb3.set (0 + 3) (.slice A' (np + 1) c')
  have hb5 := (hF b).2 (.inl rfl)
  have hnew : ∀ j, orow A' = some j → orow Ap = some j ∨ w2.heap.size ≤ j := hg3.2
  have hbl := hb.lt
  have n1 : orow A' ≠ some b := fun e => by rcases hnew b e with x | x; exact h2 x; omega
  have n2 : ∀ j, orow Ad = some j → orow A' ≠ some j := fun j hj e => by
    rcases hnew j e with x | x
    · exact h3 j hj x
    · have := hd.row_lt j hj; omega
  refine ⟨rfl, fun j => j = b ∨ orow Ad = some j ∨ orow A' = some j, ⟨⟨Ad, A', nd, cd, np + 1, c', t, hb4, hd3.grown hg4 (fun j hj e => by injection hj with hj; subst hj; exact h1 e), hp3.grown hg4 (fun j hj e => by injection hj with hj; subst hj; exact n1 e), fun _ => Iff.rfl, h1, n1, n2⟩, ?_⟩, ?_, ?_⟩
  · refine ⟨hD.ok.geo, hD.ok.len, hD.ok.each, fun p hp => ?_, hD.ok.fuse⟩
    rcases List.mem_append.1 hp with hp | hp
    · exact hD.ok.pend p hp
    · rw [List.mem_singleton.1 hp]; exact ⟨hth.1, hth.2, hsz⟩
  · rintro j (rfl | hj | hj)
    · exact .inl hb5
    · exact .inl ((hF j).2 (.inr (.inl hj)))
    · rcases hnew j hj with x | x
      · exact .inl ((hF j).2 (.inr (.inr x)))
      · exact .inr (Nat.le_trans hg.size x)
  · refine Only.trans (Only.trans (Only.of_grown hg (fun j hj => by injection hj with hj; subst hj; exact .inl hb5)) (Only.of_grown (F := F) hg3.grown (fun j hj => .inl ((hF j).2 (.inr (.inr hj))))) (fun j hj => .inl hj)) (Only.of_grown (F := F) hg4 (fun j hj => by injection hj with hj; subst hj; exact .inl hb5)) (fun j hj => .inl hj)
theorem rread_calls {w : World} {b : Nat} {d : Dev} {F : Nat → Prop} (h : DevAt w b d F) (k : Int) :
    Calls Tryd.prog 31 #[.pointer (some ⟨b, 0, none⟩), .int .i64 k] w (Ret fun v w' => v = .tuple #[.string (d.read k).1, .int .i64 (d.read k).2] ∧ Ext w w') := by
  apply calls31
  unfold S31 Dev.read
  obtain ⟨Ad, Ap, nd, cd, np, cp, t, hb, hd, hp, hF, h1, h2, h3⟩ := h.mem
  have hok := h.ok
  have hdim := hok.dims
  have hdl := hd.len
  have hpl := hp.len
  have hple := hp.sl.le
  have h0 : ∀ p ∈ d.pen, 0 ≤ p.1 := fun p hp => (hok.pend p hp).1
  refine splitW_i (fun hz => ?_) (fun hz0 => ?_)
  · rw [if_pos (by have := of_decide_eq_true hz; omega)]
    exact ⟨rfl, Ext.refl w⟩
  have hz0 := of_decide_eq_false hz0
  refine ptr_i (boxF 1 d.blocks hb (by rfl) (splitW_i (fun hz => ?_) (fun hz1 => ?_)))
  · rw [if_pos (by have := of_decide_eq_true hz; omega)]
    exact ⟨rfl, Ext.refl w⟩
  have hz1 := of_decide_eq_false hz1
  rw [if_neg (by omega)]
  refine ptr_i (boxF 3 (Ap, np, cp) hb (by rfl) ?_)
  dsimp only
  rw [wrap_i64 (by omega) (by omega)]
  refine loopW_i (fun y w' => w' = w ∧ ∃ i : Nat, i ≤ np ∧ y = ((np : Int) - 1 - i, ()) ∧ ∀ j, d.pen.length - i ≤ j → j < d.pen.length → (d.pen.getD j w00).1 ≠ k) (fun y => (y.1 + 1).toNat) ⟨rfl, 0, by omega, by simp, fun j hj hj2 => by omega⟩ ?_
  rintro _ w1 ⟨hw, i, hi, rfl, hno⟩
  subst hw
  dsimp only
  by_cases hlt : i < np
  · refine splitW_t (decide_eq_true (by omega)) ?_
    refine ptr_i (boxF 3 (Ap, np, cp) hb (by rfl) ?_)
    dsimp only
    refine idx_f0 (l := .int .i64) (k := 2) (fun x : Int × ByteArray => x.1) w00 hp.sl (fun _ => rfl) rfl (by omega) (by omega) ?_
    have ei : Int.toNat ((np : Int) - 1 - i) = d.pen.length - 1 - i := by omega
    refine splitW_i (fun hz => ?_) (fun hz => ?_)
    · have hz := beq_iff_eq.1 hz
      rw [ei] at hz
      refine ptr_i (boxF 3 (Ap, np, cp) hb (by rfl) ?_)
      dsimp only
      refine idx_f (l := .str) (k := 2) 1 (fun x : Int × ByteArray => x.2) w00 hp.sl (fun _ => rfl) rfl (by omega) (by omega) ?_
      rw [ei]
      refine ⟨?_, Ext.refl _⟩
      rw [puts_last (by omega) h0 (by omega) (by omega) hz (fun j hj hj2 => hno j (by omega) hj2)]
    · have hz := beq_eq_false_iff_ne.1 hz
      rw [ei] at hz
      rw [wrap_i64 (by omega) (by omega)]
      refine ⟨⟨rfl, i + 1, by omega, by congr 1; omega, fun j hj hj2 => ?_⟩, by omega⟩
      by_cases hjj : j = d.pen.length - 1 - i
      · rw [hjj]; exact hz
      · exact hno j (by omega) hj2
  · obtain rfl : i = np := by omega
    refine splitW_f (decide_eq_false (by omega)) ?_
    refine ptr_i (boxF 2 (Ad, nd, cd) hb (by rfl) ?_)
    dsimp only
    refine idx_str hd.sl (by omega) (by omega) ⟨?_, Ext.refl _⟩
    rw [puts_skip (by omega) _ _ h0 (fun p hp => ?_)]
    obtain ⟨j, hj, rfl⟩ := List.mem_iff_getElem.1 hp
    have := hno j (by omega) hj
    rw [List.getD_eq_getElem?_getD, List.getElem?_eq_getElem hj] at this
    exact this
theorem rfuse_calls {w : World} {b : Nat} {d : Dev} {F : Nat → Prop} (h : DevAt w b d F) {n : Int} (hn : n < 9223372036854775808) :
    Calls Tryd.prog 34 #[.pointer (some ⟨b, 0, none⟩), .int .i64 n] w (Ret fun v w' => v = .tuple #[] ∧ Step w b F { d with fuse := max (-1) n } w') := by
  obtain ⟨Ad, Ap, nd, cd, np, cp, t, hb, hd, hp, hF, h1, h2, h3⟩ := h.mem
  apply calls34
  unfold S34
  have ef : (if -1 > n then -1 else n) = max (-1) n := by split <;> omega
  refine ptr_i ?_
  rw [ef, add_mk]
  refine stW_blk hb (by show 0 + 5 < 6; omega) ?_
  have hg1 := set_grown w b (0 + 5) (.int .i64 (max (-1) n))
  have hD := h.put (d' := { d with fuse := max (-1) n }) (o := 0 + 5) (v := .int .i64 (max (-1) n)) (fun _ _ _ _ _ _ => rfl) rfl rfl ⟨h.ok.geo, h.ok.len, h.ok.each, h.ok.pend, by dsimp only; omega⟩
  exact ⟨rfl, F, hD, fun k hk => .inl hk, Only.of_grown hg1 (fun j hj => by injection hj with hj; subst hj; exact .inl h.box)⟩

theorem rflush_calls {w : World} {b : Nat} {d : Dev} {F : Nat → Prop} (h : DevAt w b d F) :
    Calls Tryd.prog 32 #[.pointer (some ⟨b, 0, none⟩)] w (Ret fun v w' => v = .int .i64 d.flush.2 ∧ Step w b F d.flush.1 w') := by
  have stay : ∀ {w' : World}, w' = w → Step w b F d w' := fun e => by subst e; exact ⟨F, h, fun k hk => .inl hk, Only.refl F _⟩
  apply calls32
  unfold S32 Dev.flush
  refine callW_of (rburn_calls h) ?_
  rintro _ w2 (⟨hz, rfl, hw⟩ | ⟨hz, rfl, hD, hg⟩)
  · refine ⟨_, rfl, splitW_t (by rfl) ?_⟩
    rw [if_pos hz]
    exact ⟨rfl, stay hw⟩
  refine ⟨_, rfl, splitW_f (by rfl) ?_⟩
  rw [if_neg hz]
  obtain ⟨Ad, Ap, nd, cd, np, cp, t, hb, hd, hp, hF, h1, h2, h3⟩ := hD.mem
  have hlp : d.pen.length = np := hp.len
  have hld : d.dur.length = nd := hd.len
  have hpl := hp.sl.le
  have hok := h.ok
  refine loopW_i (fun y w' => ∃ i : Nat, i ≤ np ∧ y = ((i : Int), ()) ∧ Only F w2 w' ∧ Blk w' b [.int .i64 d.size, .int .i64 d.blocks, .slice Ad nd cd, .slice Ap np cp, .int .i64 d.burnt.ops, .int .i64 d.burnt.fuse] t
      ∧ Owni strE 9 w' 0 Ad nd cd ((d.pen.take i).foldl Go.Proofs.YtpbjbhcejgnhiaaDoor.V.put d.dur) ∧ Owni writeE 53 w' 0 Ap np cp d.pen) (fun y => (np - y.1).toNat) ⟨0, by omega, rfl, Only.refl F w2, hb, hd, hp⟩ ?_
  rintro _ w3 ⟨i, hi, rfl, hO, hb, hd, hp⟩
  dsimp only
  refine ptr_i (boxF 3 (Ap, np, cp) hb (by rfl) ?_)
  dsimp only
  by_cases hlt : i < np
  · refine splitW_t (decide_eq_true (by omega)) ?_
    refine draw_i fun w5 he5 _ _ => ?_
    have hb5 := hb.ext he5
    have hd5 := hd.ext he5
    have hp5 := hp.ext he5
    have e : d.pen[i]? = some (d.pen.getD i (0, ByteArray.empty)) := by rw [List.getD_eq_getElem?_getD, List.getElem?_eq_getElem (by omega)]; rfl
    have hq := hok.pend _ (List.mem_of_getElem? e)
    have hlen := hok.len
    refine ptr_i (boxF 2 (Ad, nd, cd) hb5 (by rfl) (ptr_i (boxF 3 (Ap, np, cp) hb5 (by rfl) ?_)))
    dsimp only
    refine idx_f0 (l := .int .i64) (k := 2) (fun x : Int × ByteArray => x.1) (0, ByteArray.empty) hp5.sl (fun _ => rfl) rfl (by omega) (by omega) ?_
    refine ptr_i (boxF 3 (Ap, np, cp) hb5 (by rfl) ?_)
    dsimp only
    refine idx_f (l := .str) (k := 2) 1 (fun x : Int × ByteArray => x.2) (0, ByteArray.empty) hp5.sl (fun _ => rfl) rfl (by omega) (by omega) ?_
    rw [Int.toNat_natCast]
    generalize d.pen.getD i (0, ByteArray.empty) = q at e hq ⊢
    refine idx_setS hd5 hq.1 (by have := hq.2.1; omega) ?_
    intro w6 hd6 hg6
    have hb6 := hb5.grown hg6 (fun e => h1 e.symm)
    have hp6 := hp5.grown hg6 (fun j hj e => h3 j hj e)
    have efold : (d.pen.take (i + 1)).foldl Go.Proofs.YtpbjbhcejgnhiaaDoor.V.put d.dur = Go.Proofs.YtpbjbhcejgnhiaaDoor.V.put ((d.pen.take i).foldl Go.Proofs.YtpbjbhcejgnhiaaDoor.V.put d.dur) q := by
      rw [List.take_add_one, e, List.foldl_append]
      rfl
    refine ⟨⟨i + 1, by omega, by rw [wrap_i64 (by omega) (by omega)]; rfl, ?_, hb6, by rw [efold]; exact hd6, hp6⟩, by rw [wrap_i64 (by omega) (by omega)]; omega⟩
    exact Only.trans (Only.trans hO (Only.of_ext (F := F) he5) (fun j hj => .inl hj)) (Only.of_grown (F := F) hg6 (fun j hj => .inl ((hF j).2 (.inr (.inl hj))))) (fun j hj => .inl hj)
  · obtain rfl : i = np := by omega
    refine splitW_f (decide_eq_false (by omega)) (ptr_i ?_)
    rw [add_mk]
    refine stW_blk hb (by show 0 + 3 < 6; omega) ?_
    have hg7 := set_grown w3 b (0 + 3) (.slice none 0 0)
    have hb7 := hb.set (0 + 3) (.slice none 0 0)
    rw [List.take_of_length_le (by omega)] at hd
    have hbF := (hF b).2 (.inl rfl)
    refine ⟨rfl, fun j => j = b ∨ orow Ad = some j ∨ orow none = some j, ⟨⟨Ad, none, nd, cd, 0, 0, t, hb7, hd.grown hg7 (fun j hj e => by injection hj with hj; subst hj; exact h1 e), Owni.nil _ _ _, fun _ => Iff.rfl, h1, (fun e => by cases e), (fun j hj e => by cases e)⟩, ?_⟩, ?_, ?_⟩
    · exact ⟨hok.geo, by show (((d.pen.foldl Go.Proofs.YtpbjbhcejgnhiaaDoor.V.put d.dur).length : Nat) : Int) = d.blocks; rw [puts_len]; exact hok.len, puts_each _ _ hok.each (fun p hp => (hok.pend p hp).2.2), (fun p hp => by cases hp), hD.ok.fuse⟩
    · rintro j (rfl | hj | hj)
      · exact .inl hbF
      · exact .inl ((hF j).2 (.inr (.inl hj)))
      · cases hj
    · exact Only.trans (Only.trans (Only.of_grown (F := F) hg (fun j hj => by injection hj with hj; subst hj; exact .inl hbF)) hO (fun j hj => .inl hj)) (Only.of_grown (F := F) hg7 (fun j hj => by injection hj with hj; subst hj; exact .inl hbF)) (fun j hj => .inl hj)
theorem rrot_calls {w : World} {b : Nat} {d : Dev} {F : Nat → Prop} (h : DevAt w b d F) (k bit : Int) (m : W32) (hb1 : bit < 9223372036854775808) :
    Calls Tryd.prog 33 #[.pointer (some ⟨b, 0, none⟩), .int .i64 k, .int .i64 bit, .int .u32 (m.toNat : Int)] w (Ret fun v w' => v = .int .i64 (d.rot k bit m).2 ∧ Step w b F (d.rot k bit m).1 w') := by
  have hdim := h.ok.dims
  apply calls33
  unfold S33
  have bad : ¬ d.rotOK k bit m → Value.int .i64 2 = .int .i64 (d.rot k bit m).2 ∧ Step w b F (d.rot k bit m).1 w := fun hn => by
    unfold Dev.rot
    rw [if_neg hn]
    exact ⟨rfl, F, h, fun k hk => .inl hk, Only.refl F w⟩
  obtain ⟨Ad, Ap, nd, cd, np, cp, t, hb, hd, hp, hF, h1, h2, h3⟩ := h.mem
  refine splitW_i (fun hz => bad (fun x => by have := of_decide_eq_true hz; have := x.1.1; omega)) (fun hk0 => ?_)
  have hk0 := of_decide_eq_false hk0
  refine ptr_i (boxF 1 d.blocks hb (by rfl) (splitW_i (fun hz => bad (fun x => by have := of_decide_eq_true hz; have := x.1.2; omega)) (fun hk1 => ?_)))
  have hk1 := of_decide_eq_false hk1
  have hth : 0 ≤ k ∧ k < d.blocks := by omega
  refine splitW_i (fun hz => bad (fun x => by have := of_decide_eq_true hz; have := x.2.1; omega)) (fun hz0 => ?_)
  have hz0 := of_decide_eq_false hz0
  refine ptr_i (box0 d.size hb (by rfl) ?_)
  have e8 : IntKind.wrap .i64 (8 * d.size) = 8 * d.size := wrap_i64 (by omega) (by omega)
  rw [e8]
  refine splitW_i (fun hz => bad (fun x => by have := of_decide_eq_true hz; have := x.2.2.1; omega)) (fun hz1 => ?_)
  have hz1 := of_decide_eq_false hz1
  refine splitW_i (fun hz => bad (fun x => x.2.2.2.1 (by have := beq_iff_eq.1 hz; apply BitVec.eq_of_toNat_eq; simpa using this))) (fun hz2 => ?_)
  have hz2 : m ≠ 0 := by
    rintro rfl
    exact absurd hz2 (by decide)
  refine loopW_i (fun y w' => w' = w ∧ ∃ i : Nat, i ≤ 32 ∧ y = ((i : Int), ()) ∧ ∀ j, j < i → m.getLsbD j = true → bit + j < 8 * d.size) (fun y => (32 - y.1).toNat) ⟨rfl, 0, by omega, rfl, fun j hj => by omega⟩ ?_
  rintro _ w1 ⟨hw, i, hi, rfl, hin⟩
  subst hw
  dsimp only
  have ewi : IntKind.wrap .i64 ((i : Int) + 1) = ((i + 1 : Nat) : Int) := by rw [wrap_i64 (by omega) (by omega)]; rfl
  by_cases hlt : i < 32
  · have next : (m.getLsbD i = true → bit + i < 8 * d.size) → (w1 = w1 ∧ ∃ j : Nat, j ≤ 32 ∧ (((i + 1 : Nat) : Int), ()) = ((j : Int), ()) ∧ ∀ q, q < j → m.getLsbD q = true → bit + q < 8 * d.size) ∧ (32 - ((i + 1 : Nat) : Int)).toNat < (32 - (i : Int)).toNat := fun hh =>
      ⟨⟨rfl, i + 1, by omega, rfl, fun q hq hb => by
        by_cases hqi : q = i
        · subst hqi; exact hh hb
        · exact hin q (by omega) hb⟩, by omega⟩
    refine splitW_t (decide_eq_true (by omega)) ?_
    have eu : IntKind.wrap .u64 (i : Int) = (i : Int) := by rw [wrap_u64]; omega
    rw [eu, ewi]
    refine guard_i (by omega) ?_
    rw [ishr_nat .u32 m.toNat i (by show i ≤ 32; omega)]
    have etm : (Int.tmod ((m.toNat / 2 ^ i : Nat) : Int) 2 == 1) = m.getLsbD i := by
      show _ = m.toNat.testBit i
      rw [Int.tmod_eq_emod_of_nonneg (Int.natCast_nonneg _), Nat.testBit_eq_decide_div_mod_eq]
      by_cases hh : m.toNat / 2 ^ i % 2 = 1
      · rw [decide_eq_true hh]
        exact beq_iff_eq.2 (by omega)
      · rw [decide_eq_false hh]
        exact beq_eq_false_iff_ne.2 (by omega)
    rw [etm]
    refine splitW_i (fun hbt => ?_) (fun hbt => next (fun hh => by rw [hbt] at hh; cases hh))
    refine ptr_i (box0 d.size hb (by rfl) ?_)
    rw [e8, wrap_i64 (by omega) (by omega)]
    exact splitW_i (fun hz => bad (fun x => by have := of_decide_eq_true hz; have := x.2.2.2.2 i hlt hbt; omega)) (fun hz => next (fun _ => by have := of_decide_eq_false hz; omega))
  obtain rfl : i = 32 := by omega
  have hok : d.rotOK k bit m := ⟨hth, by omega, by omega, hz2, hin⟩
  refine splitW_f (by rfl) (draw_i fun w4 he4 _ _ => ?_)
  have hb := hb.ext he4
  have hd := hd.ext he4
  have hp := hp.ext he4
  have hdl := hd.len
  refine ptr_i (boxF 2 (Ad, nd, cd) hb (by rfl) (ptr_i (boxF 2 (Ad, nd, cd) hb (by rfl) ?_)))
  dsimp only
  have hsz := h.ok.at_ hth.1 hth.2
  refine idx_str hd.sl hth.1 (by omega) ?_
  generalize hs : d.dur.getD k.toNat ByteArray.empty = s at hsz
  have boxE : ∀ {w' : World}, Ext w4 w' → HL w' [((⟨b, 0, none⟩ : Addr).add 2, .slice Ad nd cd)] := fun he => held1F (hb.ext he) (by rfl)
  refine conv_bytes (u := .string) (e := 5) (by kernel_rfl) (by kernel_rfl) (by kernel_rfl) (by omega) ?_
  intro c5 w5 hsl5 he5 _ _
  refine h1_i (boxE he5) ?_
  refine callW_of (rflip_calls (n := s.size) (bit := bit) (k := 32) (m := m) hsl5 (by omega) (by omega) hb1) ?_
  rintro _ w7 ⟨x7, rfl, ho7, he7⟩
  refine ⟨x7, rfl, ?_⟩
  refine h1_i (boxE (he5.trans he7)) ?_
  refine conv_str (e := 5) (by kernel_rfl) (by kernel_rfl) (by kernel_rfl) ho7.sl ?_
  refine h1_i (boxE (he5.trans he7)) ?_
  have eF : flipG (B s) bit 32 m = Crc.flip (B s) bit.toNat 32 m := by
    unfold flipG
    rw [if_neg (by omega)]
    rfl
  have hres : (d.rot k bit m) = (d.rotted k bit m, 0) := by unfold Dev.rot; rw [if_pos hok]
  rw [eF, hres]
  have he47 := he5.trans he7
  refine idx_setS (hd.ext he47) hth.1 (by omega) ?_
  intro w8 hd8 hg8
  refine ⟨rfl, F, ?_, fun k hk => .inl hk, ?_⟩
  · have := DevAt.dur (F := F) (h.ok.rotted hok) (hb.ext he47) (by rw [← hs] at hd8; exact hd8) (hp.ext he47) hg8 hF h1 h2 h3
    exact this
  · exact Only.trans (Only.of_ext (he4.trans he47)) (Only.of_grown (F := F) hg8 (fun j hj => .inl ((hF j).2 (.inr (.inl hj))))) (fun j hj => .inl hj)
theorem rimage_calls {w : World} {b : Nat} {d : Dev} {F : Nat → Prop} (h : DevAt w b d F) :
    Calls Tryd.prog 36 #[.pointer (some ⟨b, 0, none⟩)] w (Ret fun v w' => v = .string (mkB d.image) ∧ Ext w w') := by
  obtain ⟨Ad, Ap, nd, cd, np, cp, t, hb, hd, hp, hF, h1, h2, h3⟩ := h.mem
  have hok := h.ok.dims
  have hil := h.ok.image_le
  have hdl := hd.len
  apply calls36
  unfold S36
  refine loopW_i (fun (y : (Option Addr × Nat × Nat) × Int × Unit) w' => ∃ (i : Nat) (X : Option Addr) (cx : Nat), i ≤ nd ∧ y = ((X, ((d.dur.take i).flatMap B).length, cx), (i : Int), ()) ∧ Ext w w' ∧ Own 5 w' w.heap.size X ((d.dur.take i).flatMap B).length cx (bV ((d.dur.take i).flatMap B))) (fun y => (nd - y.2.1).toNat) ⟨0, none, 0, by omega, rfl, Ext.refl w, Own.nil _ _ _⟩ ?_
  rintro _ w1 ⟨i, X, cx, hi, rfl, he1, ho⟩
  have hb1 := hb.ext he1
  refine ptr_i (boxF 2 (Ad, nd, cd) hb1 (by rfl) ?_)
  dsimp only
  by_cases hlt : i < nd
  · refine splitW_t (decide_eq_true (by omega)) ?_
    refine ptr_i (boxF 2 (Ad, nd, cd) hb1 (by rfl) ?_)
    dsimp only
    refine idx_str (hd.sl.ext he1) (by omega) (by omega) ?_
    rw [Int.toNat_natCast]
    have e : d.dur[i]? = some (d.dur.getD i ByteArray.empty) := by rw [List.getD_eq_getElem?_getD, List.getElem?_eq_getElem (by omega)]; rfl
    have hs := h.ok.each _ (List.mem_of_getElem? e)
    have efl : (d.dur.take (i + 1)).flatMap B = (d.dur.take i).flatMap B ++ B (d.dur.getD i ByteArray.empty) := by rw [take_snoc e, List.flatMap_append, List.flatMap_singleton]
    generalize d.dur.getD i ByteArray.empty = s at efl hs
    have hlen : ((d.dur.take i).flatMap B).length + s.size = ((d.dur.take (i + 1)).flatMap B).length := by rw [efl, List.length_append, ← B_size]
    have hle : ((d.dur.take (i + 1)).flatMap B).length ≤ 16777216 := by
      have : d.image = (d.dur.take (i + 1)).flatMap B ++ (d.dur.drop (i + 1)).flatMap B := by unfold Dev.image; rw [← List.flatMap_append, List.take_append_drop]
      rw [this, List.length_append] at hil
      omega
    refine append_str (u := 9) elem_u8 (by kernel_rfl) ho he1.size (by omega) ?_
    intro A' c' w2 ho2 hg2
    rw [← efl, hlen] at ho2
    refine ⟨⟨i + 1, A', c', hlt, by rw [wrap_i64 (by omega) (by omega), hlen]; rfl, he1.grown hg2.1 (fun j hj => ho.row' j hj), ho2⟩, by rw [wrap_i64 (by omega) (by omega)]; omega⟩
  · obtain rfl : i = nd := by omega
    refine splitW_f (decide_eq_false (by omega)) ?_
    rw [List.take_of_length_le (by omega)] at ho ⊢
    refine conv_str (e := 5) (by kernel_rfl) (by kernel_rfl) (by kernel_rfl) ho.sl ?_
    exact ⟨rfl, he1⟩
def wrEq (a b : Int × ByteArray) : Bool := (a.1 == b.1) && (decide (B a.2 = B b.2) && true)
theorem fields_wr (w : World) (a b : Int × ByteArray) : (Op.eqFields 9999 #[.int .i64 a.1, .string a.2] #[.int .i64 b.1, .string b.2] (Tryd.prog.fieldsOf 53).toList).run Tryd.prog w = .ok (wrEq a b) w := by
  have hf : (Tryd.prog.fieldsOf 53).toList = [(Tryd.prog.fieldsOf 53).getD 0 default, (Tryd.prog.fieldsOf 53).getD 1 default] := by kernel_rfl
  rw [hf]
  unfold wrEq
  rw [← str_beq]
  refine eqFields_step (of_decide_eq_true (by kernel_rfl)) (a := .int .i64 a.1) (b := .int .i64 b.1) (by kernel_rfl) (by kernel_rfl) (run_equalIn_int w 9998 _ .i64 .i64 _ _ (by kernel_rfl)) ?_
  refine eqFields_step (of_decide_eq_true (by kernel_rfl)) (a := .string a.2) (b := .string b.2) (by kernel_rfl) (by kernel_rfl) (run_equalIn_string w 9998 _ _ _ (by kernel_rfl)) ?_
  rfl
theorem neq_wr (w : World) (a b : Int × ByteArray) (x y : Operand) : (eqS .neq 53 x y (.agg #[.int .i64 a.1, .string a.2]) (.agg #[.int .i64 b.1, .string b.2])).run Tryd.prog w = .ok (.bool (!(wrEq a b))) w :=
  eqS_neq (by kernel_rfl) (by kernel_rfl) (by kernel_rfl) (fields_wr w a b)
theorem wrEq_self (a : Int × ByteArray) : wrEq a a = true := by simp [wrEq]
/-- Same, of what is the same. -/
theorem rsame_calls {w : World} {A1 A2 : Option Addr} {n c1 c2 : Nat} {ps : List (Int × ByteArray)} (h1 : Sli writeE w A1 n ps) (h2 : Sli writeE w A2 n ps) :
    Calls Tryd.prog 37 #[.slice A1 n c1, .slice A2 n c2] w (Ret fun v w' => v = .bool true ∧ Ext w w') := by
  apply calls37
  unfold S37
  have hle := h1.le
  have hl := h1.len
  refine splitW_f (bne_eq_false_iff_eq.2 rfl) ?_
  refine loopW_i (fun y w' => ∃ i : Nat, i ≤ n ∧ y = ((i : Int), ()) ∧ Ext w w') (fun y => (n - y.1).toNat) ⟨0, by omega, rfl, Ext.refl w⟩ ?_
  rintro _ w1 ⟨i, hi, rfl, he1⟩
  dsimp only
  by_cases hlt : i < n
  · refine splitW_t (decide_eq_true (by omega)) (draw_i fun w2 he2 _ _ => ?_)
    have he := he1.trans he2
    refine idx_A (ls := [.int .i64, .str]) (fun x : Int × ByteArray => (x.1, x.2, ())) w00 (h1.ext he) (fun _ => rfl) rfl (by omega) (by omega) ?_
    refine idx_A (ls := [.int .i64, .str]) (fun x : Int × ByteArray => (x.1, x.2, ())) w00 (h2.ext he) (fun _ => rfl) rfl (by omega) (by omega) ?_
    refine ⟨_, fun w' => neq_wr w' _ _ _ _, ?_⟩
    rw [wrEq_self]
    rw [wrap_i64 (by omega) (by omega)]
    exact splitW_f (by rfl) ⟨⟨i + 1, hlt, rfl, he⟩, by omega⟩
  · exact splitW_f (decide_eq_false (by omega)) ⟨rfl, he1⟩

theorem rcrash_calls {w : World} {b : Nat} {d : Dev} {F : Nat → Prop} (h : DevAt w b d F) {A : Option Addr} {n c : Nat} {l : List (Int × Nat)} (hl : Sli pickE w A n l) (hlm : ∀ p ∈ l, p.2 < 18446744073709551616) (hn : n ≤ 1000000) (hpen : d.pen.length ≤ 1000000) :
    Calls Tryd.prog 35 #[.pointer (some ⟨b, 0, none⟩), .slice A n c] w (Ret fun v w' => (d.pickOK l ∧ ∃ b', v = .tuple #[.pointer (some ⟨b', 0, none⟩), .int .i64 0] ∧ DevNew w (d.crashed l) b' w') ∨ (¬ d.pickOK l ∧ v = .tuple #[.pointer none, .int .i64 2] ∧ Ext w w')) := by
  obtain ⟨Ad, Ap, nd, cd, np, cp, t, hb, hd, hp, hF, h1, h2, h3⟩ := h.mem
  have hdim := h.ok.dims
  have hok := h.ok
  have hdl := hd.len
  have hpl := hp.len
  have hll := hl.len
  have hsec : IntKind.wrap .i64 (Int.tdiv d.size 64) = (d.secs : Int) := by
    unfold Dev.secs
    rw [Int.tdiv_eq_ediv_of_nonneg (by omega), wrap_i64 (by omega) (by omega)]
    omega
  have hs64 : d.secs ≤ 64 := by unfold Dev.secs; omega
  have hssz : d.size.toNat = d.secs * 64 := by unfold Dev.secs; omega
  have hsecu : IntKind.wrap .u64 (d.secs : Int) = (d.secs : Int) := by rw [wrap_u64]; omega
  apply calls35
  unfold S35
  refine ptr_i (box0 d.size hb (by rfl) ?_)
  rw [hsec, hsecu]
  refine loopW_i (fun y w' => ∃ i : Nat, i ≤ n ∧ y = ((i : Int), ()) ∧ Ext w w' ∧ (∀ p ∈ l.take i, d.pick1 p) ∧ ((l.take i).map (·.1)).Nodup) (fun y => (n - y.1).toNat) ⟨0, by omega, rfl, Ext.refl w, (fun p hp => by cases hp), List.nodup_nil⟩ ?_
  rintro _ w2 ⟨i, hi, rfl, he2, hall, hnd⟩
  dsimp only
  by_cases hlt : i < n
  · refine splitW_t (decide_eq_true (by omega)) ?_
    have e : l[i]? = some (l.getD i (0, 0)) := by rw [List.getD_eq_getElem?_getD, List.getElem?_eq_getElem (by omega)]; rfl
    have hmem := List.mem_of_getElem? e
    have hld : l.getD (Int.toNat (i : Int)) (0, 0) = l.getD i (0, 0) := by rw [Int.toNat_natCast]
    generalize hPe : l.getD i (0, 0) = p at e hmem hld
    have hp64 := hlm p hmem
    have bad : ∀ w', Ext w w' → ¬ (d.pick1 p ∧ p.1 ∉ (l.take i).map (·.1)) → (d.pickOK l ∧ ∃ b', Value.tuple #[.pointer none, .int .i64 2] = .tuple #[.pointer (some ⟨b', 0, none⟩), .int .i64 0] ∧ DevNew w (d.crashed l) b' w') ∨ (¬ d.pickOK l ∧ Value.tuple #[.pointer none, .int .i64 2] = .tuple #[.pointer none, .int .i64 2] ∧ Ext w w') := fun w' he hno => by
      refine .inr ⟨fun hk => hno ⟨hk.1 p hmem, fun hin => ?_⟩, rfl, he⟩
      have h5 := hk.2
      rw [← List.take_append_drop (i + 1) l, take_snoc e, List.map_append, List.map_append] at h5
      have h6 := (List.nodup_append.1 h5).1
      have h7 := (List.nodup_append.1 h6).2.2 _ hin p.1 (by simp)
      exact h7 rfl
    have hI : ∀ {w' : World} {K : Int → WP}, Ext w w' → K p.1 w' → (guardW (0 ≤ (i : Int) ∧ (i : Int) < (n : Int)) <| ptrW A fun q => ldW (.int .i64) (q.add (Int.toNat (i : Int) * 2)) K) w' := fun he hk =>
      idx_f0 (l := .int .i64) (k := 2) (fun x : Int × Nat => x.1) (0, 0) (hl.ext he) (fun _ => rfl) rfl (by omega) (by omega) (by rw [hld]; exact hk)
    have hM : ∀ {w' : World} {K : Int → WP}, Ext w w' → K (p.2 : Int) w' → (guardW (0 ≤ (i : Int) ∧ (i : Int) < (n : Int)) <| ptrW A fun q => ldW (.int .u64) ((q.add (Int.toNat (i : Int) * 2)).add 1) K) w' := fun he hk =>
      idx_f (l := .int .u64) (k := 2) 1 (fun x : Int × Nat => (x.2 : Int)) (0, 0) (hl.ext he) (fun _ => rfl) rfl (by omega) (by omega) (by rw [hld]; exact hk)
    refine joinW_s (fun (_ : Unit) w' => Ext w w' ∧ d.pick1 p) ?_ ?_
    · rintro _ w3 ⟨he3, hp1⟩
      refine loopW_i (fun y w' => ∃ k : Nat, k ≤ i ∧ y = ((k : Int), ()) ∧ Ext w w' ∧ ∀ j, j < k → (l.getD j (0, 0)).1 ≠ p.1) (fun y => (i - y.1).toNat) ⟨0, by omega, rfl, he3, fun j hj => by omega⟩ ?_
      rintro _ w4 ⟨k, hk, rfl, he4, hno⟩
      dsimp only
      by_cases hkl : k < i
      · refine splitW_t (decide_eq_true (by omega)) (draw_i fun w5 he5 _ _ => ?_)
        have hx5 := he4.trans he5
        refine idx_f0 (l := .int .i64) (k := 2) (fun x : Int × Nat => x.1) (0, 0) (hl.ext hx5) (fun _ => rfl) rfl (by omega) (by omega) ?_
        refine hI hx5 ?_
        rw [Int.toNat_natCast]
        refine splitW_i (fun hz => bad _ hx5 (fun x => x.2 ?_)) (fun hz => ?_)
        · have hz := beq_iff_eq.1 hz
          rw [← hz]
          refine List.mem_map.2 ⟨l.getD k (0, 0), ?_, rfl⟩
          have ek : (l.take i)[k]? = some (l.getD k (0, 0)) := by
            rw [List.getElem?_take, if_pos hkl, List.getD_eq_getElem?_getD, List.getElem?_eq_getElem (by omega)]
            rfl
          exact List.mem_of_getElem? ek
        · have hz := beq_eq_false_iff_ne.1 hz
          rw [wrap_i64 (by omega) (by omega)]
          exact ⟨⟨k + 1, hkl, rfl, hx5, fun j hj => by
            by_cases hjk : j = k
            · subst hjk; exact hz
            · exact hno j (by omega)⟩, by omega⟩
      · obtain rfl : k = i := by omega
        refine splitW_f (decide_eq_false (by omega)) ?_
        rw [wrap_i64 (by omega) (by omega)]
        refine ⟨⟨k + 1, hlt, rfl, he4, ?_, ?_⟩, by omega⟩
        · intro q hq
          rw [take_snoc e] at hq
          rcases List.mem_append.1 hq with hq | hq
          · exact hall q hq
          · rw [List.mem_singleton.1 hq]; exact hp1
        · rw [take_snoc e, List.map_append]
          refine List.nodup_append.2 ⟨hnd, by simp, fun a ha b hb e2 => ?_⟩
          rw [List.map_singleton, List.mem_singleton] at hb
          obtain ⟨q, hq, rfl⟩ := List.mem_map.1 ha
          obtain ⟨j, hj, rfl⟩ := List.mem_iff_getElem.1 hq
          rw [List.length_take] at hj
          have := hno j (by omega)
          rw [List.getD_eq_getElem?_getD, List.getElem?_eq_getElem (by omega), Option.getD_some] at this
          rw [List.getElem_take] at e2
          exact this (by rw [e2, hb])
    · intro J hJ
      refine draw_i fun w3 he3 _ _ => ?_
      have hx3 := he2.trans he3
      refine hI hx3 ?_
      refine splitW_i (fun hz => bad _ hx3 (fun x => by have := of_decide_eq_true hz; have := x.1.1; omega)) (fun hz1 => ?_)
      have hz1 := of_decide_eq_false hz1
      refine hI hx3 (ptr_i (boxF 3 (Ap, np, cp) (hb.ext hx3) (by rfl) ?_))
      dsimp only
      refine splitW_i (fun hz => bad _ hx3 (fun x => by have := of_decide_eq_true hz; have := x.1.2.1; omega)) (fun hz2 => ?_)
      have hz2 := of_decide_eq_false hz2
      by_cases hs : d.secs < 64
      · refine splitW_t (decide_eq_true (by omega)) (hM hx3 (guard_i (by omega) ?_))
        rw [ishr_nat .u64 _ _ (show d.secs ≤ 64 by omega)]
        refine splitW_i (fun hz => bad _ hx3 (fun x => by have := bne_iff_ne.1 hz; have := x.1.2.2; omega)) (fun hz4 => ?_)
        have hz4 := bne_eq_false_iff_eq.1 hz4
        exact hJ _ _ ⟨hx3, by omega, by omega, by omega⟩
      · refine splitW_f (decide_eq_false (by omega)) (hJ _ _ ⟨hx3, by omega, by omega, ?_⟩)
        rw [show d.secs = 64 by omega]
        exact Nat.div_eq_of_lt hp64
  obtain rfl : i = n := by omega
  refine splitW_f (decide_eq_false (by omega)) ?_
  have htk : l.take i = l := List.take_of_length_le (by omega)
  rw [htk] at hall hnd
  have hpick : d.pickOK l := ⟨hall, hnd⟩
  refine draw_i fun w3 he3 _ _ => ?_
  have hx3 := he2.trans he3
  refine ptr_i (ldA_i (ls := [.int .i64, .int .i64]) (x := (d.size, d.blocks, ())) ⟨by rw [add_mk, (hb.ext hx3).cell]; rfl, by rw [add_mk, (hb.ext hx3).cell]; rfl, trivial⟩ ?_)
  refine ptr_i (boxF 2 (Ad, nd, cd) (hb.ext hx3) (by rfl) ?_)
  have hagg : ∀ {w' : World}, Ext w w' → HL w' [((⟨b, 0, none⟩ : Addr).add 0, .int .i64 d.size), ((⟨b, 0, none⟩ : Addr).add 1, .int .i64 d.blocks)] := fun he q hq => by
    simp only [List.mem_cons, List.not_mem_nil, or_false] at hq
    rcases hq with rfl | rfl
    · show World.cell? _ ((⟨b, 0, none⟩ : Addr).add 0) = _
      rw [add_mk, (hb.ext he).cell]; rfl
    · show World.cell? _ ((⟨b, 0, none⟩ : Addr).add 1) = _
      rw [add_mk, (hb.ext he).cell]; rfl
  apply newW_i
  have he25 : Ext w3 (w3.alloc (.cells #[] 9)) := (Ext.refl w3).alloc _
  have hoe : Owni strE 9 (w3.alloc (.cells #[] 9)) w3.heap.size (some ⟨w3.heap.size, 0, none⟩) 0 0 ([] : List ByteArray) := Owni.lit (xs := []) (n := 0) rfl (Nat.le_refl _) (by omega)
  have hx25 := hx3.trans he25
  refine h2_i (held1F (hb.ext hx25) (by rfl)) (hagg hx25) ?_
  refine append_sli (E := strE) (n := 0) (m := nd) elem_strK' hoe (by simp) (hd.sl.ext hx25) (by omega) (by omega) ?_
  intro An cn w4 ho4 hg4 _
  have he4 : Ext w3 w4 := he25.grown hg4.1 (fun j hj => by injection hj with hj; subst hj; exact Nat.le_refl _)
  rw [Nat.zero_add] at ho4 ⊢
  rw [List.nil_append] at ho4
  have hx4 := hx3.trans he4
  have hw3 := hx3.size
  refine h1_i (hagg hx4) ?_
  refine new_i fun r24 w5 hb24 he5 hr24 hz24 => ?_
  have hb24 : Blk w5 r24 [.int .i64 d.size, .int .i64 d.blocks, .slice An nd cn, .slice none 0 0, .int .i64 0, .int .i64 (-1)] 70 := hb24
  have hx5 := hx4.trans he5
  have ho5 := ho4.ext he5
  have hne24 : orow An ≠ some r24 := fun e => by have := ho4.row_lt _ e; omega
  have hAn5 : ∀ j, orow An = some j → w3.heap.size ≤ j ∧ j < r24 := fun j hj => ⟨ho4.row j hj, by have := ho4.row_lt j hj; omega⟩
  refine loopW_i (fun (y : Int × Unit) w' => ∃ (k : Nat), k ≤ i ∧ y = ((k : Int), ()) ∧ Ext w w' ∧ w5.heap.size ≤ w'.heap.size ∧ Blk w' r24 [.int .i64 d.size, .int .i64 d.blocks, .slice An nd cn, .slice none 0 0, .int .i64 0, .int .i64 (-1)] 70
    ∧ Owni strE 9 w' w3.heap.size An nd cn ((l.take k).foldl (applyP d.pen) d.dur)) (fun y => (i - y.1).toNat) ⟨0, by omega, rfl, hx5, Nat.le_refl _, hb24, ho5⟩ ?_
  rintro _ w6 ⟨k, hk, rfl, hx6, hs6, hb24, ho6⟩
  dsimp only
  by_cases hlt : k < i
  · refine splitW_t (decide_eq_true (by omega)) (draw_i fun w8 he8 _ _ => ?_)
    have hx8 := hx6.trans he8
    have e : l[k]? = some (l.getD k (0, 0)) := by rw [List.getD_eq_getElem?_getD, List.getElem?_eq_getElem (by omega)]; rfl
    have hmem := List.mem_of_getElem? e
    obtain ⟨pi, epi, hpis, hpic⟩ := (hl.ext hx8).at_ e
    have hld : l.getD (Int.toNat (k : Int)) (0, 0) = l.getD k (0, 0) := by rw [Int.toNat_natCast]
    generalize hPe : l.getD k (0, 0) = p at e hmem hld hpic
    have hp64 := hlm p hmem
    have hp1 := hall p hmem
    refine ptr_i (boxF 3 (Ap, np, cp) (hb.ext hx8) (by rfl) ?_)
    dsimp only
    rw [epi]
    have hpi0 : w8.cell? (pi.add (Int.toNat (k : Int) * 2)) = some (.int .i64 p.1) := by
      have := hpic.1
      rw [add_zero] at this
      rw [Int.toNat_natCast]
      exact this
    refine guard_i (by omega) (ptr_i (ld_i (l := .int .i64) (x := p.1) hpi0 ?_))
    have hsl8 := (hp.ext hx8).sl
    obtain ⟨q, hq⟩ : ∃ q, q = d.pen.getD p.1.toNat w00 := ⟨_, rfl⟩
    have eq1 : d.pen[p.1.toNat]? = some q := by rw [hq, List.getD_eq_getElem?_getD, List.getElem?_eq_getElem (by have := hp1.1; have := hp1.2.1; omega)]; rfl
    have hqok := hok.pend _ (List.mem_of_getElem? eq1)
    obtain ⟨pa, ea, hsa, hca⟩ := hsl8.at_ eq1
    refine guard_i ⟨hp1.1, by have := hp1.2.1; omega⟩ ?_
    rw [ea]
    refine ptr_i (ldA_i (ls := [.int .i64, .str]) (x := (q.1, q.2, ())) hca ?_)
    apply newW_i
    have hb35 := Blk.new w8 #[.int .i64 0, .string ByteArray.empty] 53
    have he35 : Ext w8 (w8.alloc (.cells #[.int .i64 0, .string ByteArray.empty] 53)) := (Ext.refl w8).alloc _
    refine h3_i (fun z hz => ?_) (fun z hz => ?_) (by rw [← ea]; exact held1F ((hb.ext hx8).ext he35) (by rfl)) ?_
    · simp only [List.mem_cons, List.not_mem_nil, or_false] at hz
      rcases hz with rfl | rfl
      · exact he35.cell hca.1
      · exact he35.cell hca.2.1
    · obtain rfl := List.mem_singleton.1 hz
      exact he35.cell hpi0
    refine refill (vs := writeE.f q) hb35 (by rfl) (writeE.one q) (by rfl) ?_
    intro w9 hb35 hx9 hk9 hs9
    have he9 : Ext w8 w9 := hx9 w8 he35 (Nat.le_refl _)
    generalize hr35 : w8.heap.size = r35 at hb35
    refine draw_i fun w10 he10' _ _ => ?_
    have he10 := he9.trans he10'
    have hb35 := hb35.ext he10'
    have hx10 := hx8.trans he10
    have hb24 := (hb24.ext he8).ext he10
    have ho10 := (ho6.ext he8).ext he10
    have hr35lt := hb35.lt
    have hr24lt := hb24.lt
    generalize hD : (l.take k).foldl (applyP d.pen) d.dur = D at ho10
    have hDl : D.length = nd := ho10.len
    have hDe : ∀ s ∈ D, (s.size : Int) = d.size := by rw [← hD]; exact apply_each _ _ _ hok.each
    refine ptr_i (boxF 2 (An, nd, cn) hb24 (by rfl) (box0 q.1 hb35 (by rfl) ?_))
    dsimp only
    have hq0 := hqok.1
    have hq1 := hqok.2.1
    have hq2 := hqok.2.2
    refine idx_str ho10.sl hq0 (by omega) ?_
    obtain ⟨old, hold⟩ : ∃ old, old = D.getD q.1.toNat ByteArray.empty := ⟨_, rfl⟩
    rw [← hold]
    have eold : D[q.1.toNat]? = some old := by rw [hold, List.getD_eq_getElem?_getD, List.getElem?_eq_getElem (by omega)]; rfl
    have holdz := hDe _ (List.mem_of_getElem? eold)
    refine conv_bytesB (u := .string) (e := 5) (by kernel_rfl) (by kernel_rfl) (by kernel_rfl) ?_
    intro c11 w11 rest hB11 he11 hz11 hc11
    generalize hrb : w10.heap.size = rb at hB11 hz11 ⊢
    have hb24 := hb24.ext he11
    have hb35 := hb35.ext he11
    have ho11 := ho10.ext he11
    have hx11 := hx10.trans he11
    have hBl : (B old).length = d.secs * 64 := by rw [← B_size]; omega
    have hql : (B q.2).length = (B old).length := by rw [hBl, ← B_size]; omega
    have hszo : old.size = d.secs * 64 := by omega
    have hszq : q.2.size = d.secs * 64 := by omega
    let FF : Nat → Prop := fun j => j = rb
    have hw10 := hx10.size
    refine loopW_i (fun (y : Int × Unit) w' => ∃ z : Nat, z ≤ d.secs ∧ y = ((z : Int), ()) ∧ Only FF w11 w' ∧ BlkB w' rb (bV (mixS (B old) (B q.2) (fun j => p.2.testBit j && decide (j < z))) ++ rest) 5) (fun y => (d.secs - y.1).toNat) ⟨0, by omega, rfl, Only.refl _ _, by
      rw [mixS_none (fun j _ => by simp)]
      exact hB11⟩ ?_
    rintro _ w12 ⟨z, hz, rfl, g1, g2⟩
    dsimp only
    have hlE : ∀ {w' : World}, Only FF w11 w' → Ext w w' := fun h => Ext.only' hx11 h (fun j hj => by have hj : j = rb := hj; omega)
    by_cases hzl : z < d.secs
    · refine splitW_t (decide_eq_true (by omega)) ?_
      have ezu : IntKind.wrap .u64 (z : Int) = (z : Int) := by rw [wrap_u64]; omega
      rw [← epi]
      refine idx_f (l := .int .u64) (k := 2) 1 (fun x : Int × Nat => (x.2 : Int)) (0, 0) (hl.ext (hlE g1)) (fun _ => rfl) rfl (by omega) (by omega) ?_
      rw [hld, ezu]
      refine guard_i (by omega) ?_
      rw [ishr_nat .u64 p.2 z (by show z ≤ 64; omega)]
      have etm : (Int.tmod ((p.2 / 2 ^ z : Nat) : Int) 2 == 1) = p.2.testBit z := by
        rw [Int.tmod_eq_emod_of_nonneg (Int.natCast_nonneg _), Nat.testBit_eq_decide_div_mod_eq]
        by_cases hh : p.2 / 2 ^ z % 2 = 1
        · rw [decide_eq_true hh]
          exact beq_iff_eq.2 (by omega)
        · rw [decide_eq_false hh]
          exact beq_eq_false_iff_ne.2 (by omega)
      rw [etm]
      have ewz : IntKind.wrap .i64 ((z : Int) + 1) = ((z + 1 : Nat) : Int) := by rw [wrap_i64 (by omega) (by omega)]; rfl
      refine splitW_i (fun hbit => ?_) (fun hbit => ?_)
      · refine draw_i fun w15 he15 hs15 hk15 => ?_
        have g1 : Only FF w11 w15 := Only.trans g1 (Only.of_ext (F := fun _ => False) he15) (fun _ h => h.elim)
        have g2 := g2.ext he15
        have ew1 : IntKind.wrap .i64 ((z : Int) * 64) = ((z * 64 : Nat) : Int) := by rw [wrap_i64 (by omega) (by omega)]; omega
        have ew2 : IntKind.wrap .i64 (IntKind.wrap .i64 ((z : Int) + 1) * 64) = ((z * 64 + 64 : Nat) : Int) := by rw [ewz, wrap_i64 (by omega) (by omega)]; omega
        rw [ew1, ew2]
        refine guard_i ⟨by omega, by omega, by omega⟩ ?_
        refine boxF 1 q.2 (hb35.only g1 (fun e => by have e : r35 = rb := e; omega)) (by rfl) ?_
        refine guard_i ⟨by omega, by omega⟩ ?_
        simp only [Int.toNat_natCast]
        have hcut : cutAddr (some (⟨rb, 0, none⟩ : Addr)) (z * 64) c11 1 = some ⟨rb, z * 64, none⟩ := by
          unfold cutAddr
          rw [if_neg (by omega)]
          simp [add_mk]
        rw [hcut, show z * 64 + 64 - z * 64 = 64 by omega]
        have hMl : (mixS (B old) (B q.2) (fun j => p.2.testBit j && decide (j < z))).length = d.secs * 64 := by rw [mixS_length, hBl]
        refine copy_strB elem_u8 g2 (by rw [List.length_append, length_bV, hMl]; omega) ?_
        intro w16 hB16 hg16
        have eX : B (q.2.extract (z * 64) q.2.size) = (B q.2).drop (z * 64) := by
          rw [B_extract, List.take_of_length_le (by rw [List.length_drop, ← B_size]; omega)]
        have esucc : (fun j => (p.2.testBit j && decide (j < z)) || decide (j = z)) = fun j => p.2.testBit j && decide (j < z + 1) := by
          funext j
          by_cases hj : j = z
          · subst hj; simp [hbit]
          · by_cases hjz : j < z
            · simp [hj, hjz, show j < z + 1 by omega]
            · simp [hj, hjz, show ¬ j < z + 1 by omega]
        rw [eX, show min ((B q.2).drop (z * 64)).length 64 = 64 by rw [List.length_drop, ← B_size]; omega, mixB (by omega), mix_copy hql (by omega), esucc] at hB16
        rw [ewz]
        exact ⟨⟨z + 1, hzl, rfl, g1.grow hg16 (fun j hj => by injection hj with hj; exact .inl hj.symm), hB16⟩, by omega⟩
      · rw [ewz]
        refine ⟨⟨z + 1, hzl, rfl, g1, ?_⟩, by omega⟩
        have : (fun j => p.2.testBit j && decide (j < z + 1)) = fun j => p.2.testBit j && decide (j < z) := by
          funext j
          by_cases hj : j = z
          · subst hj; simp [hbit]
          · congr 1
            exact decide_eq_decide.2 (by omega)
        rw [this]
        exact g2
    · obtain rfl : z = d.secs := by omega
      refine splitW_f (decide_eq_false (by omega)) ?_
      have hmx : mixS (B old) (B q.2) (fun j => p.2.testBit j && decide (j < d.secs)) = mixS (B old) (B q.2) p.2.testBit := mixS_congr (fun j hj => by rw [decide_eq_true (by omega), Bool.and_true])
      rw [hmx] at g2
      refine draw_i fun w15 he15 hs15 hk15 => ?_
      have g1 : Only FF w11 w15 := Only.trans g1 (Only.of_ext (F := fun _ => False) he15) (fun _ h => h.elim)
      have g2 := g2.ext he15
      have hb24 := hb24.only g1 (fun e => by have e : r24 = rb := e; omega)
      have hb35 := hb35.only g1 (fun e => by have e : r35 = rb := e; omega)
      have ho15 := ho11.only g1 (fun j hj e => by have e : j = rb := e; have := hAn5 j hj; omega)
      refine ptr_i (boxF 2 (An, nd, cn) hb24 (by rfl) (box0 q.1 hb35 (by rfl) ?_))
      refine conv_str (e := 5) (by kernel_rfl) (by kernel_rfl) (by kernel_rfl) (BlkB.sl g2 (by rw [length_bV, mixS_length, ← B_size]) (by omega)) ?_
      refine h2_i (held1Z hb35 (by rfl)) (held1F hb24 (by rfl)) ?_
      dsimp only
      refine idx_setS ho15 hq0 (by omega) ?_
      intro w16 ho16 hg16
      have hx15 := hlE g1
      have hx16 : Ext w w16 := hx15.grown hg16 (fun j hj => by have := hAn5 j hj; omega)
      refine ⟨⟨k + 1, hlt, by rw [wrap_i64 (by omega) (by omega)]; rfl, hx16, ?_, hb24.grown hg16 (fun e => hne24 e.symm), ?_⟩, ?_⟩
      · have := hg16.size
        have := g1.2.2.2.1
        have := he11.size
        have := he10.size
        have := he8.size
        omega
      · rw [take_snoc e, List.foldl_append, hD]
        show Owni strE 9 w16 w3.heap.size An nd cn (applyP d.pen D p)
        unfold applyP
        rw [← hq, ← hold]
        exact ho16
      · rw [wrap_i64 (by omega) (by omega)]; omega
  · obtain rfl : k = i := by omega
    refine splitW_f (decide_eq_false (by omega)) ?_
    rw [htk] at ho6
    refine .inl ⟨hpick, r24, rfl, _, devAt_new (d := d.crashed l) hb24 (ho6.lower (Nat.zero_le _)) rfl hne24 (hok.crashed l), ?_, hx6⟩
    rintro j (rfl | hj | hj)
    · have := hx4.size; omega
    · have := (hAn5 j hj).1; omega
    · cases hj
end Go.Proofs.YtpbjbhcejgnhiaaDoor.V
