/- ValueCalls: the law's walk. -/
import Derived.Test.YtlpniinmomhkcaaDoorKR16d
set_option linter.unusedVariables false
set_option linter.unusedSimpArgs false
namespace Go.Proofs.YtlpniinmomhkcaaDoor.V
open Go Go.Proofs Go.RowKit

def ukE (R : Option (List Cell)) : Int := if R.isSome then 0 else 160
theorem ukRes_get {w w' : World} {R : Option (List Cell)} {v : Value} (h : UkRes w R v w') : ∃ x : Option Addr × Nat × Nat, v = .tuple #[.slice x.1 x.2.1 x.2.2, .int .i64 (ukE R)] ∧ Sli cellE w' x.1 x.2.1 (R.getD []) ∧ Ext w w' := by
  obtain ⟨he, x, h⟩ := h
  cases R with
  | none => exact ⟨(none, 0, 0), h, Sli.nil _ _, he⟩
  | some cs => exact ⟨x, h.1, h.2, he⟩
theorem hl3 {w : World} {a : Addr} {c : Cell} (h : CellsAt w a 0 (cellE.f c)) : ∀ p ∈ [(a.add 0, Value.int .i64 c.1), (a.add 1, Value.int .i64 c.2.1), (a.add 2, Value.string c.2.2)], w.cell? p.1 = some p.2 := hl_cells h
theorem calls_calls {w : World} (hp : Pow w) (hse : Sen w) {A1 A2 : Option Addr} {n1 c1 n2 c2 : Nat} {a b : List Cell} (ha : Sli cellE w A1 n1 a) (hb : Sli cellE w A2 n2 b) (qa : ∀ c ∈ a, cellQ c) (qb : ∀ c ∈ b, cellQ c) (key s : ByteArray) :
    Calls Tryd.prog 8 #[.slice A1 n1 c1, .slice A2 n2 c2, .string key, .string s] w (Ret fun v w' => v = .bool true ∧ Ext w w') := by
  apply calls8
  unfold S8
  have hla := ha.len
  have hlb := hb.len
  refine callW_of (lives_calls hp) ?_
  rintro _ w1 ⟨rfl, he1⟩
  refine ⟨_, rfl, splitW_f (by rfl) ?_⟩
  refine joinW_s (fun (y : Bool × Unit) w' => w' = w1 ∧ (y.1 = false → n1 ≤ 20 ∧ n2 ≤ 20 ∧ key.size ≤ 400 ∧ s.size ≤ 400)) ?_ (fun J hJ => ?_)
  case refine_2 =>
    refine splitW_i (fun _ => hJ _ _ ⟨rfl, fun h => by cases h⟩) fun g1 => ?_
    refine splitW_i (fun _ => hJ _ _ ⟨rfl, fun h => by cases h⟩) fun g2 => ?_
    refine splitW_i (fun _ => hJ _ _ ⟨rfl, fun h => by cases h⟩) fun g3 => ?_
    refine splitW_i (fun _ => hJ _ _ ⟨rfl, fun h => by cases h⟩) fun g4 => ?_
    have g1 := of_decide_eq_false g1
    have g2 := of_decide_eq_false g2
    have g3 := of_decide_eq_false g3
    have g4 := of_decide_eq_false g4
    refine callW_of (lightrow_calls (ha.ext he1)) ?_
    rintro _ w2 ⟨⟨q, rfl, _⟩, hw⟩
    subst hw
    refine ⟨_, rfl, splitW_i (fun _ => hJ _ _ ⟨rfl, fun h => by cases h⟩) fun _ => ?_⟩
    refine callW_of (lightrow_calls (hb.ext he1)) ?_
    rintro _ w3 ⟨⟨q2, rfl, _⟩, hw⟩
    subst hw
    exact ⟨_, rfl, hJ _ _ ⟨rfl, fun _ => ⟨by omega, by omega, by omega, by omega⟩⟩⟩
  rintro ⟨p, _⟩ w2 ⟨hw, hg⟩
  subst hw
  dsimp only at hg ⊢
  refine splitW_i (fun _ => ⟨rfl, he1⟩) fun hp0 => ?_
  obtain ⟨hn1, hn2, hks, hss⟩ := hg hp0
  refine callW_of (unkey_calls w2 key (by omega)) ?_
  rintro _ w3 hU
  obtain ⟨x3, rfl, hs3, he3⟩ := ukRes_get hU
  have hx3 := he1.trans he3
  refine ⟨(x3, ukE (unkeyR (B key)), ()), rfl, ?_⟩
  refine callW_of (runkey_calls w3 key (by omega)) ?_
  rintro _ w4 hU4
  obtain ⟨x4, rfl, hs4, he4⟩ := ukRes_get hU4
  have hx4 := hx3.trans he4
  refine ⟨(x4, ukE (unkeyR (B key)), ()), rfl, ?_⟩
  generalize unkeyR (B key) = R at hs3 hs4
  refine callW_of (read_calls (hp.ext hx4) (hse.ext hx4) s (by omega)) ?_
  rintro _ w5 ⟨rfl, he5⟩
  have hx5 := hx4.trans he5
  refine ⟨rdV (readC (B s)), rfl, ?_⟩
  obtain ⟨d, e, hd⟩ : ∃ (d : Cell) (e : Int), rdV (readC (B s)) = (cT d, e, ()) := by
    cases readC (B s) with
    | none => exact ⟨cell0, 160, rfl⟩
    | some c => exact ⟨c, 0, rfl⟩
  rw [hd]
  refine box_i (vs := cellE.f d) (by rfl) (cellE.one d) ?_ (by rfl)
  intro r9 w6 hb9 he6 _
  have hx6 := hx5.trans he6
  refine callW_of (rread_calls w6 s (by omega)) ?_
  rw [hd]
  rintro _ w7 ⟨rfl, he7⟩
  have hx7 := hx6.trans he7
  refine ⟨(cT d, e, ()), rfl, ?_⟩
  refine box_i (vs := cellE.f d) (by rfl) (cellE.one d) ?_ (by rfl)
  intro r11 w8 hb11 he8 _
  have hx8 := hx7.trans he8
  have hb9 := (hb9.ext he7).ext he8
  have hs3 := ((((hs3.ext he4).ext he5).ext he6).ext he7).ext he8
  have hs4 := (((hs4.ext he5).ext he6).ext he7).ext he8
  refine loopW_i (fun y w' => ∃ i : Nat, i ≤ n1 ∧ y = ((i : Int), ()) ∧ Ext w8 w') (fun y => (n1 - y.1).toNat) ⟨0, by omega, rfl, Ext.refl _⟩ ?_
  rintro _ w9 ⟨i, hi, rfl, he9⟩
  have hx9 := hx8.trans he9
  dsimp only
  by_cases hlt : i < n1
  · refine splitW_t (decide_eq_true (by omega)) ?_
    have hget : a[i]? = some (a.getD i cell0) := by rw [List.getD_eq_getElem?_getD, List.getElem?_eq_getElem (by omega)]; rfl
    have hmem := List.mem_of_getElem? hget
    have hgetI : a[(i : Int).toNat]? = some (a.getD i cell0) := by rw [Int.toNat_natCast]; exact hget
    generalize hx : a.getD i cell0 = x at hget hmem hgetI
    have qx := qa x hmem
    have hxd : a.getD (i : Int).toNat cell0 = x := by rw [Int.toNat_natCast]; exact hx
    refine draw_i fun w10 he10 _ _ => ?_
    have hx10 := hx9.trans he10
    refine idx_A (ls := [.int .i64, .int .i64, .str]) cT cell0 (ha.ext hx10) (fun _ => rfl) rfl (by omega) (by omega) ?_
    rw [hxd]
    refine idx_el (ha.ext hx10) (by omega) hgetI rfl fun p16 _ hc16 => ?_
    refine ⟨cT x, hc16, ?_⟩
    refine callW_of (vcheck_calls w10 qx) ?_
    rintro _ w11 ⟨rfl, he11⟩
    have hx11 := hx10.trans he11
    refine ⟨_, rfl, heldc (hl3 (cellsAt_ext he11 hc16)) (held0 ?_)⟩
    refine callW_of (rvcheck_calls w11 x) ?_
    rintro _ w12 ⟨rfl, he12⟩
    have hx12 := hx11.trans he12
    refine ⟨_, rfl, splitW_f (bne_eq_false_iff_eq.2 rfl) ?_⟩
    refine idx_A (ls := [.int .i64, .int .i64, .str]) cT cell0 (ha.ext hx12) (fun _ => rfl) rfl (by omega) (by omega) ?_
    rw [hxd]
    refine idx_el (ha.ext hx12) (by omega) hgetI rfl fun p22 _ hc22 => ?_
    refine ⟨cT x, hc22, ?_⟩
    refine callW_of (vtext_calls (hp.ext hx12) qx) ?_
    rintro _ w13 ⟨rfl, he13⟩
    have hx13 := hx12.trans he13
    refine ⟨_, rfl, heldc (hl3 (cellsAt_ext he13 hc22)) (held0 ?_)⟩
    refine callW_of (rtext_calls w13 qx) ?_
    rintro _ w14 ⟨rfl, he14⟩
    have hx14 := hx13.trans he14
    refine ⟨_, rfl, splitW_f (by simp) ?_⟩
    refine loopW_i (fun y w' => ∃ k : Nat, k ≤ n2 ∧ y = ((k : Int), ()) ∧ Ext w14 w') (fun y => (n2 - y.1).toNat) ⟨0, by omega, rfl, Ext.refl _⟩ ?_
    rintro _ w15 ⟨k, hk, rfl, he15⟩
    have hx15 := hx14.trans he15
    dsimp only
    by_cases hlt2 : k < n2
    · refine splitW_t (decide_eq_true (by omega)) ?_
      have hgetk : b[(k : Int).toNat]? = some (b.getD (k : Int).toNat cell0) := by rw [Int.toNat_natCast, List.getD_eq_getElem?_getD, List.getElem?_eq_getElem (by omega)]; rfl
      refine draw_i fun w16 he16 _ _ => ?_
      have hx16 := hx15.trans he16
      refine idx_A (ls := [.int .i64, .int .i64, .str]) cT cell0 (ha.ext hx16) (fun _ => rfl) rfl (by omega) (by omega) ?_
      rw [hxd]
      refine idx_A (ls := [.int .i64, .int .i64, .str]) cT cell0 (hb.ext hx16) (fun _ => rfl) rfl (by omega) (by omega) ?_
      generalize b.getD (k : Int).toNat cell0 = y at hgetk
      refine idx_el (ha.ext hx16) (by omega) hgetI rfl fun p32 _ hc32 => ?_
      refine ⟨cT x, hc32, ?_⟩
      refine idx_el (hb.ext hx16) (by omega) hgetk rfl fun p34 _ hc34 => ?_
      refine ⟨cT y, hc34, ?_⟩
      refine callW_of (vcmp_calls w16 x y) ?_
      rintro _ w17 ⟨rfl, he17⟩
      refine ⟨_, rfl, heldc (hl3 (cellsAt_ext he17 hc34)) (heldc (hl3 (cellsAt_ext he17 hc32)) (held0 ?_))⟩
      refine callW_of (rcmp_calls w17 x y) ?_
      rintro _ w18 ⟨rfl, he18⟩
      refine ⟨_, rfl, splitW_f (bne_eq_false_iff_eq.2 rfl) ?_⟩
      rw [wrap_i64 (by omega) (by omega)]
      exact ⟨⟨k + 1, by omega, rfl, ((he15.trans he16).trans he17).trans he18⟩, by omega⟩
    · refine splitW_f (decide_eq_false (by omega)) ?_
      rw [wrap_i64 (by omega) (by omega)]
      exact ⟨⟨i + 1, by omega, rfl, ((((((he9.trans he10).trans he11).trans he12).trans he13).trans he14).trans he15)⟩, by omega⟩
  · refine splitW_f (decide_eq_false (by omega)) ?_
    refine new_i fun r38 w10 hb38 he10 _ _ => ?_
    have hx10 := hx9.trans he10
    refine new_i fun r39 w11 hb39 he11 _ _ => ?_
    have hx11 := hx10.trans he11
    refine callW_of (samerows1_calls (hb38.ext he11) hb39 (((hs3.ext he9).ext he10).ext he11) (((hs4.ext he9).ext he10).ext he11)) ?_
    rintro _ w12 ⟨⟨q, rfl, hq⟩, he12⟩
    have hx12 := hx11.trans he12
    rw [hq.2 rfl]
    have hy := ((he9.trans he10).trans he11).trans he12
    have hb9 := hb9.ext hy
    have hb11 := hb11.ext hy
    refine ⟨_, rfl, splitW_t (by rfl) (splitW_t (beq_self_eq_true _) ?_)⟩
    refine boxA (ls := [.int .i64, .int .i64, .str]) (cT d) hb9 rfl (boxA (ls := [.int .i64, .int .i64, .str]) (cT d) hb11 rfl ?_)
    refine ⟨_, fun w' => eql_cell w' d d _ _, ?_⟩
    rw [cellEq_iff.2 rfl]
    refine splitW_t (by rfl) (splitW_t (beq_self_eq_true _) ?_)
    refine callW_of (vrows_calls (ha.ext hx12) (hb.ext hx12)) ?_
    rintro _ w13 ⟨rfl, he13⟩
    have hx13 := hx12.trans he13
    refine ⟨_, rfl, ?_⟩
    refine callW_of (rrows_calls (ha.ext hx13) (hb.ext hx13)) ?_
    rintro _ w14 ⟨rfl, he14⟩
    have hx14 := hx13.trans he14
    refine ⟨_, rfl, splitW_t (beq_self_eq_true _) ?_⟩
    refine callW_of (vkey_calls (ha.ext hx14) qa (by omega)) ?_
    rintro _ w15 ⟨rfl, he15⟩
    have hx15 := hx14.trans he15
    refine ⟨_, rfl, ?_⟩
    refine callW_of (rvkey_calls (ha.ext hx15) qa (by omega)) ?_
    rintro _ w16 ⟨rfl, he16⟩
    exact ⟨_, rfl, by simp, hx15.trans he16⟩
end Go.Proofs.YtlpniinmomhkcaaDoor.V
