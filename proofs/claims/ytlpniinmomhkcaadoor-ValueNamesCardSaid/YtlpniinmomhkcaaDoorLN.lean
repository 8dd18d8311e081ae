/- ValueNames: the law's walk. -/
import Derived.Test.YtlpniinmomhkcaaDoorLT
set_option linter.unusedVariables false
set_option linter.unusedSimpArgs false
namespace Go.Proofs.YtlpniinmomhkcaaDoor.V
open Go Go.Proofs Go.RowKit

theorem kbool_calls (w : World) (b : Bool) : Calls Tryd.prog 22 #[.bool b] w (Ret fun v w' => v = .agg #[.int .i64 2, .int .i64 (if b then 1 else 0), .string ByteArray.empty] ∧ Ext w w') := by
  apply calls22
  unfold S22
  refine new_i fun r w1 hb1 he1 hr1 hs1 => ?_
  refine splitW_i (fun h => ?_) (fun h => ?_)
  · subst h
    refine refill_g (vs := cellE.f (2, 1, ByteArray.empty)) hb1 (by rfl) (cellE.one (2, 1, ByteArray.empty)) (by rfl) ?_
    intro w2 hb2 hg2
    exact boxA (ls := [.int .i64, .int .i64, .str]) (cT (2, 1, ByteArray.empty)) hb2 rfl ⟨rfl, he1.grown hg2 (fun j hj => by cases hj; omega)⟩
  · subst h
    refine refill_g (vs := cellE.f (2, 0, ByteArray.empty)) hb1 (by rfl) (cellE.one (2, 0, ByteArray.empty)) (by rfl) ?_
    intro w2 hb2 hg2
    exact boxA (ls := [.int .i64, .int .i64, .str]) (cT (2, 0, ByteArray.empty)) hb2 rfl ⟨rfl, he1.grown hg2 (fun j hj => by cases hj; omega)⟩
theorem fails_calls {w : World} (hp : Pow w) (hse : Sen w) (s : ByteArray) (hs : s.size ≤ 1000000) (h : readC (B s) = none) : Calls Tryd.prog 20 #[.string s] w (Ret fun v w' => v = .bool true ∧ Ext w w') := by
  apply calls20
  unfold S20
  refine callW_of (read_calls hp hse s hs) ?_
  rw [h]
  rintro _ w1 ⟨rfl, he1⟩
  refine ⟨(cT cell0, 160, ()), rfl, ?_⟩
  refine box_i (vs := cellE.f cell0) (by rfl) (cellE.one cell0) ?_ (by rfl)
  intro r w2 hb2 he2 _
  refine splitW_t (by rfl) ?_
  refine boxA (ls := [.int .i64, .int .i64, .str]) (cT cell0) hb2 rfl ?_
  exact ⟨_, fun w' => eql_cell w' cell0 cell0 _ _, by rw [cellEq_iff.2 rfl], he1.trans he2⟩
theorem reads_calls {w : World} (hp : Pow w) (hse : Sen w) (s : ByteArray) (c : Cell) (hs : s.size ≤ 1000000) (hk : cellOK c = true) (q : cellQ c) (h : txt c = B s) : Calls Tryd.prog 21 #[.string s, .agg #[.int .i64 c.1, .int .i64 c.2.1, .string c.2.2]] w (Ret fun v w' => v = .bool true ∧ Ext w w') := by
  apply calls21
  unfold S21
  refine new_i fun r1 w1 hb1 he1 _ _ => ?_
  have hb1 : Blk w1 r1 (cellE.f c) 23 := hb1
  refine callW_of (read_calls (hp.ext he1) (hse.ext he1) s hs) ?_
  rw [← h, readC_txt hk q]
  rintro _ w2 ⟨rfl, he2⟩
  have hx2 := he1.trans he2
  have hb1 := hb1.ext he2
  refine ⟨(cT c, 0, ()), rfl, ?_⟩
  refine box_i (vs := cellE.f c) (by rfl) (cellE.one c) ?_ (by rfl)
  intro r3 w3 hb3 he3 _
  have hx3 := hx2.trans he3
  have hb1 := hb1.ext he3
  refine splitW_t (by rfl) ?_
  refine boxA (ls := [.int .i64, .int .i64, .str]) (cT c) hb3 rfl (boxA (ls := [.int .i64, .int .i64, .str]) (cT c) hb1 rfl ?_)
  refine ⟨_, fun w' => eql_cell w' c c _ _, ?_⟩
  rw [cellEq_iff.2 rfl]
  refine splitW_t (by rfl) ?_
  refine boxA (ls := [.int .i64, .int .i64, .str]) (cT c) hb1 rfl ?_
  refine callW_of (vtext_calls (hp.ext hx3) q) ?_
  rintro _ w4 ⟨rfl, he4⟩
  exact ⟨_, rfl, by rw [str_beq, B_mkB, h, decide_eq_true rfl], hx3.trans he4⟩
def row3 : List Cell := [cell0, (2, 1, ByteArray.empty), (3, 0, ByteArray.mk #[])]
theorem row3_ok : ∀ c ∈ row3, cellOK c = true ∧ cellQ c := by
  intro c hc
  simp only [row3, List.mem_cons, List.not_mem_nil, or_false] at hc
  rcases hc with rfl | rfl | rfl
  · exact ⟨by decide +kernel, ⟨by decide, by decide⟩, ⟨by decide, by decide⟩, by decide⟩
  · exact ⟨by decide +kernel, ⟨by decide, by decide⟩, ⟨by decide, by decide⟩, by decide⟩
  · exact ⟨by decide +kernel, ⟨by decide, by decide⟩, ⟨by decide, by decide⟩, by decide⟩
theorem unkey3 : unkeyR [0, 2, 1, 3, 0, 0] = some row3 := unkey_keys row3_ok
def badK : List ByteArray := [ByteArray.mk #[4], ByteArray.mk #[2, 2], ByteArray.mk #[1, 0], ByteArray.mk #[3, 97], ByteArray.mk #[3, 0, 1], ByteArray.mk #[3, 97, 0]]
theorem badK_none : ∀ s ∈ badK, unkeyR (B s) = none ∧ s.size ≤ 1000000 := by
  intro s hs
  simp only [badK, List.mem_cons, List.not_mem_nil, or_false] at hs
  rcases hs with rfl | rfl | rfl | rfl | rfl | rfl
  · exact ⟨(unkeyR_some (c := mk0 4 0 []) (r := []) (by decide) (by rfl)).trans (if_neg (by decide +kernel)), by decide⟩
  · exact ⟨(unkeyR_some (c := mk0 2 2 []) (r := []) (by decide) (by rfl)).trans (if_neg (by decide +kernel)), by decide⟩
  · exact ⟨unkeyR_none (by decide) (by rfl), by decide⟩
  · exact ⟨unkeyR_none (by decide) (by rfl), by decide⟩
  · exact ⟨unkeyR_none (by decide) (by rfl), by decide⟩
  · exact ⟨unkeyR_none (by decide) (by rfl), by decide⟩
def badT : List ByteArray := [ByteArray.mk #[], ByteArray.mk #[48, 49], ByteArray.mk #[43, 49], ByteArray.mk #[45, 48], ByteArray.mk #[110, 117, 108], ByteArray.mk #[34, 97], ByteArray.mk #[34, 92, 120, 52, 49, 34], ByteArray.mk #[34, 92, 120, 70, 70, 34], ByteArray.mk #[57, 50, 50, 51, 51, 55, 50, 48, 51, 54, 56, 53, 52, 55, 55, 53, 56, 48, 56], ByteArray.mk #[34, 34, 34]]
theorem badT_none : ∀ s ∈ badT, readC (B s) = none ∧ s.size ≤ 1000000 := by
  have h : (badT.all fun s => (readC (B s)).isNone && decide (s.size ≤ 1000000)) = true := by decide +kernel
  intro s hs
  have := List.all_eq_true.1 h s hs
  simp only [Bool.and_eq_true, Option.isNone_iff_eq_none, decide_eq_true_eq] at this
  exact this
theorem getD_mem {α : Type} {xs : List α} {i : Nat} {d : α} (h : i < xs.length) : xs.getD i d ∈ xs := by
  rw [getD_of_lt h]
  exact List.getElem_mem h
theorem names_calls {w : World} (hp : Pow w) (hse : Sen w) : Calls Tryd.prog 7 #[] w (Ret fun v w' => v = .bool true ∧ Ext w w') := by
  apply calls7
  unfold S7
  refine callW_of (lives_calls hp) ?_
  rintro _ w1 ⟨rfl, hx1⟩
  refine ⟨_, rfl, splitW_f (by rfl) ?_⟩
  refine callW_of (unkey_calls w1 (ByteArray.mk #[0, 2, 1, 3, 0, 0]) (by decide)) ?_
  have e3 : unkeyR (B (ByteArray.mk #[0, 2, 1, 3, 0, 0])) = some row3 := unkey3
  rw [e3]
  rintro _ w2 ⟨he2, x, rfl, hs2⟩
  have hx2 := hx1.trans he2
  refine ⟨(x, 0, ()), rfl, ?_⟩
  refine new_i fun r3 w3 hb3 he3 _ _ => ?_
  have hx3 := hx2.trans he3
  have hk3 : Sli strE w3 (some ⟨r3, 0, none⟩) 6 badK := Sli.of_blk hb3 rfl (by omega)
  refine loopW_i (fun y w' => ∃ i : Nat, i ≤ 6 ∧ y = (true, (i : Int), ()) ∧ Ext w3 w') (fun y => (6 - y.2.1).toNat) ⟨0, by omega, rfl, Ext.refl _⟩ ?_
  rintro _ w4 ⟨i, hi, rfl, he4⟩
  dsimp only
  by_cases hlt : i < 6
  · refine splitW_t (decide_eq_true (by omega)) ?_
    refine idx_str (hk3.ext he4) (by omega) (by omega) ?_
    rw [Int.toNat_natCast]
    obtain ⟨hn, hz⟩ := badK_none _ (getD_mem (xs := badK) (i := i) (d := ByteArray.empty) hlt)
    refine callW_of (unkey_calls w4 _ hz) ?_
    rw [hn]
    rintro _ w5 ⟨he5, x5, rfl⟩
    refine ⟨((none, 0, 0), 160, ()), rfl, splitW_t (by rfl) ?_⟩
    rw [wrap_i64 (by omega) (by omega)]
    exact ⟨⟨i + 1, by omega, rfl, he4.trans he5⟩, by omega⟩
  obtain rfl : i = 6 := by omega
  refine splitW_f (by rfl) ?_
  have hx4 := hx3.trans he4
  refine new_i fun r9 w5 hb9 he5 _ _ => ?_
  have hx5 := hx4.trans he5
  have hk5 : Sli strE w5 (some ⟨r9, 0, none⟩) 10 badT := Sli.of_blk hb9 rfl (by omega)
  refine loopW_i (fun y w' => ∃ i : Nat, i ≤ 10 ∧ y = (true, (i : Int), ()) ∧ Ext w5 w') (fun y => (10 - y.2.1).toNat) ⟨0, by omega, rfl, Ext.refl _⟩ ?_
  rintro _ w6 ⟨i, hi, rfl, he6⟩
  have hx6 := hx5.trans he6
  dsimp only
  by_cases hlt : i < 10
  · refine splitW_t (decide_eq_true (by omega)) ?_
    refine idx_str (hk5.ext he6) (by omega) (by omega) ?_
    rw [Int.toNat_natCast]
    obtain ⟨hn, hz⟩ := badT_none _ (getD_mem (xs := badT) (i := i) (d := ByteArray.empty) hlt)
    refine splitW_t (by rfl) ?_
    refine callW_of (fails_calls (hp.ext hx6) (hse.ext hx6) _ hz hn) ?_
    rintro _ w7 ⟨rfl, he7⟩
    refine ⟨_, rfl, ?_⟩
    rw [wrap_i64 (by omega) (by omega)]
    exact ⟨⟨i + 1, by omega, rfl, he6.trans he7⟩, by omega⟩
  obtain rfl : i = 10 := by omega
  refine splitW_f (by rfl) ?_
  refine joinW_s (fun (y : Bool × Unit) w' => y = (true, ()) ∧ Ext w6 w') ?_ (fun J hJ => ?_)
  case refine_2 =>
    refine callW_of (reads_calls (c := cell0) (hp.ext hx6) (hse.ext hx6) _ (by decide) (by decide +kernel) ⟨⟨by decide, by decide⟩, ⟨by decide, by decide⟩, by decide⟩ (by decide +kernel)) ?_
    rintro _ w7 ⟨rfl, he7⟩
    have hx7 := hx6.trans he7
    refine ⟨_, rfl, splitW_t (by rfl) ?_⟩
    refine callW_of (kbool_calls w7 true) ?_
    rintro _ w8 ⟨rfl, he8⟩
    have hx8 := hx7.trans he8
    refine ⟨(2, 1, ByteArray.empty, ()), rfl, ?_⟩
    refine callW_of (reads_calls (c := (2, 1, ByteArray.empty)) (hp.ext hx8) (hse.ext hx8) _ (by decide) (by decide +kernel) ⟨⟨by decide, by decide⟩, ⟨by decide, by decide⟩, by decide⟩ (by decide +kernel)) ?_
    rintro _ w9 ⟨rfl, he9⟩
    have hx9 := hx8.trans he9
    refine ⟨_, rfl, splitW_t (by rfl) ?_⟩
    refine callW_of (kbool_calls w9 false) ?_
    rintro _ w10 ⟨rfl, he10⟩
    have hx10 := hx9.trans he10
    refine ⟨(2, 0, ByteArray.empty, ()), rfl, ?_⟩
    refine callW_of (reads_calls (c := (2, 0, ByteArray.empty)) (hp.ext hx10) (hse.ext hx10) _ (by decide) (by decide +kernel) ⟨⟨by decide, by decide⟩, ⟨by decide, by decide⟩, by decide⟩ (by decide +kernel)) ?_
    rintro _ w11 ⟨rfl, he11⟩
    have hx11 := hx10.trans he11
    refine ⟨_, rfl, splitW_t (by rfl) ?_⟩
    refine callW_of (num_calls w11 (-9223372036854775808)) ?_
    rintro _ w12 ⟨rfl, he12⟩
    have hx12 := hx11.trans he12
    refine ⟨(1, -9223372036854775808, ByteArray.empty, ()), rfl, ?_⟩
    refine callW_of (reads_calls (c := (1, -9223372036854775808, ByteArray.empty)) (hp.ext hx12) (hse.ext hx12) _ (by decide) (by decide +kernel) ⟨⟨by decide, by decide⟩, ⟨by decide, by decide⟩, by decide⟩ (by decide +kernel)) ?_
    rintro _ w13 ⟨rfl, he13⟩
    have hx13 := hx12.trans he13
    refine ⟨_, rfl, splitW_t (by rfl) ?_⟩
    refine callW_of (str_calls w13 _) ?_
    rintro _ w14 ⟨rfl, he14⟩
    have hx14 := hx13.trans he14
    refine ⟨(3, 0, ByteArray.mk #[], ()), rfl, ?_⟩
    refine callW_of (reads_calls (c := (3, 0, ByteArray.mk #[])) (hp.ext hx14) (hse.ext hx14) _ (by decide) (by decide +kernel) ⟨⟨by decide, by decide⟩, ⟨by decide, by decide⟩, by decide⟩ (by decide +kernel)) ?_
    rintro _ w15 ⟨rfl, he15⟩
    have hx15 := hx14.trans he15
    refine ⟨_, rfl, splitW_t (by rfl) ?_⟩
    refine callW_of (str_calls w15 _) ?_
    rintro _ w16 ⟨rfl, he16⟩
    have hx16 := hx15.trans he16
    refine ⟨(3, 0, ByteArray.mk #[97, 34, 92, 255], ()), rfl, ?_⟩
    refine callW_of (reads_calls (c := (3, 0, ByteArray.mk #[97, 34, 92, 255])) (hp.ext hx16) (hse.ext hx16) _ (by decide) (by decide +kernel) ⟨⟨by decide, by decide⟩, ⟨by decide, by decide⟩, by decide⟩ (by decide +kernel)) ?_
    rintro _ w17 ⟨rfl, he17⟩
    exact ⟨_, rfl, hJ _ _ ⟨rfl, (((((((((he7.trans he8).trans he9).trans he10).trans he11).trans he12).trans he13).trans he14).trans he15).trans he16).trans he17⟩⟩
  rintro _ w7 ⟨rfl, he7⟩
  have hx7 := hx6.trans he7
  dsimp only
  refine joinW_s (fun (y : Bool × Unit) w' => y = (true, ()) ∧ Ext w7 w') ?_ (fun J hJ => ?_)
  · rintro _ w8 ⟨rfl, he8⟩
    exact ⟨rfl, hx7.trans he8⟩
  refine splitW_t (by rfl) (splitW_t (by rfl) (splitW_t (by rfl) ?_))
  refine new_i fun r30 w8 hb30 he8 _ _ => ?_
  refine callW_of (kbool_calls w8 true) ?_
  rintro _ w9 ⟨rfl, he9⟩
  refine ⟨(2, 1, ByteArray.empty, ()), rfl, ?_⟩
  refine callW_of (str_calls w9 _) ?_
  rintro _ w10 ⟨rfl, he10⟩
  refine ⟨(3, 0, ByteArray.mk #[], ()), rfl, ?_⟩
  refine new_i fun r33 w11 hb33 he11 _ _ => ?_
  refine new_i fun r34 w12 hb34 he12 _ _ => ?_
  have hy : Ext w7 w12 := (((he8.trans he9).trans he10).trans he11).trans he12
  have hs12 : Sli cellE w12 x.1 x.2.1 row3 := hs2.ext (((((he3.trans he4).trans he5).trans he6).trans he7).trans hy)
  have h30 := (((hb30.ext he9).ext he10).ext he11).ext he12
  have h33 : Sli cellE w12 (some ⟨r33, 0, none⟩) 3 row3 := Sli.of_blk (hb33.ext he12) rfl (by omega)
  refine callW_of (samerows1_calls h30 hb34 hs12 h33) ?_
  rintro _ w13 ⟨⟨q, rfl, hq⟩, he13⟩
  have hy := hy.trans he13
  rw [hq.2 rfl]
  refine ⟨_, rfl, splitW_t (by rfl) ?_⟩
  refine callW_of (vcheck_calls w13 (c := (4, 0, ByteArray.empty)) ⟨⟨by decide, by decide⟩, ⟨by decide, by decide⟩, by decide⟩) ?_
  rintro _ w14 ⟨rfl, he14⟩
  have hy := hy.trans he14
  refine ⟨_, rfl, splitW_t (by decide +kernel) ?_⟩
  refine callW_of (vcheck_calls w14 (c := (2, 2, ByteArray.empty)) ⟨⟨by decide, by decide⟩, ⟨by decide, by decide⟩, by decide⟩) ?_
  rintro _ w15 ⟨rfl, he15⟩
  have hy := hy.trans he15
  refine ⟨_, rfl, splitW_t (by decide +kernel) ?_⟩
  refine callW_of (vcheck_calls w15 (c := (0, 1, ByteArray.empty)) ⟨⟨by decide, by decide⟩, ⟨by decide, by decide⟩, by decide⟩) ?_
  rintro _ w16 ⟨rfl, he16⟩
  have hy := hy.trans he16
  refine ⟨_, rfl, splitW_t (by decide +kernel) ?_⟩
  refine new_i fun r39 w17 hb39 he17 _ _ => ?_
  have hy := hy.trans he17
  refine callW_of (vkey_calls (row := [(9, 0, ByteArray.empty)]) (Sli.of_blk hb39 rfl (by omega)) (by intro c hc; obtain rfl := List.mem_singleton.1 hc; exact ⟨⟨by decide, by decide⟩, ⟨by decide, by decide⟩, by decide⟩) (by omega)) ?_
  rintro _ w18 ⟨rfl, he18⟩
  have hy := hy.trans he18
  refine ⟨_, rfl, splitW_t (by decide +kernel) ?_⟩
  refine callW_of (vtext_calls (hp.ext (hx7.trans hy)) (c := (9, 0, ByteArray.empty)) ⟨⟨by decide, by decide⟩, ⟨by decide, by decide⟩, by decide⟩) ?_
  rintro _ w19 ⟨rfl, he19⟩
  have hy := hy.trans he19
  refine ⟨_, rfl, splitW_t (by decide +kernel) ?_⟩
  refine callW_of (num_calls w19 (-5)) ?_
  rintro _ w20 ⟨rfl, he20⟩
  have hy := hy.trans he20
  refine ⟨(1, -5, ByteArray.empty, ()), rfl, ?_⟩
  refine callW_of (vcmp_calls w20 cell0 (1, -5, ByteArray.empty)) ?_
  rintro _ w21 ⟨rfl, he21⟩
  have hy := hy.trans he21
  refine ⟨_, rfl, splitW_t (by decide +kernel) ?_⟩
  refine callW_of (str_calls w21 _) ?_
  rintro _ w22 ⟨rfl, he22⟩
  have hy := hy.trans he22
  refine ⟨(3, 0, ByteArray.mk #[98], ()), rfl, ?_⟩
  refine callW_of (str_calls w22 _) ?_
  rintro _ w23 ⟨rfl, he23⟩
  have hy := hy.trans he23
  refine ⟨(3, 0, ByteArray.mk #[97, 98], ()), rfl, ?_⟩
  refine callW_of (vcmp_calls w23 (3, 0, ByteArray.mk #[98]) (3, 0, ByteArray.mk #[97, 98])) ?_
  rintro _ w24 ⟨rfl, he24⟩
  have hy := hy.trans he24
  refine ⟨_, rfl, splitW_t (by decide +kernel) ?_⟩
  refine new_i fun r47 w25 hb47 he25 _ _ => ?_
  have hy := hy.trans he25
  refine new_i fun r48 w26 hb48 he26 _ _ => ?_
  have hy := hy.trans he26
  refine callW_of (vrows_calls (a := [cell0]) (b := [cell0, cell0]) (Sli.of_blk (hb47.ext he26) rfl (by omega)) (Sli.of_blk hb48 rfl (by omega))) ?_
  rintro _ w27 ⟨rfl, he27⟩
  have hy := hy.trans he27
  refine ⟨_, rfl, splitW_t (by decide +kernel) ?_⟩
  refine callW_of (vrows_calls (a := []) (b := []) (Sli.nil w27 none) (Sli.nil w27 none)) ?_
  rintro _ w28 ⟨rfl, he28⟩
  exact ⟨_, rfl, hJ _ _ ⟨rfl, hy.trans he28⟩⟩
end Go.Proofs.YtlpniinmomhkcaaDoor.V
