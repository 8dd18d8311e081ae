/- SchemaRows, SchemaCalls, as contracts. -/
import Derived.Test.YtiihdgodghaobaaL
import Derived.Test.YtiihdgodghaobaaKSchema4
set_option linter.unusedVariables false
set_option linter.unusedSimpArgs false
namespace Go.Proofs.Ytiihdgodghaobaa.V
open Go Go.Proofs Go.RowKit

theorem rowF_zero : ∀ {cs : List Col} {vs : List Cell}, cs.length = vs.length → (rowF cs vs = 0 ↔ ∀ j, j < cs.length → fitsE (cs.getD j col0) (vs.getD j cell0) = 0)
  | [], [], _ => by simp [rowF]
  | [], v :: vs, h => by simp at h
  | c :: cs, [], h => by simp at h
  | c :: cs, v :: vs, h => by
    have ih := rowF_zero (cs := cs) (vs := vs) (by simpa using h)
    rw [rowF]
    constructor
    · intro h0 j hj
      by_cases hf : fitsE c v = 0
      · rw [if_neg (by simpa using hf)] at h0
        cases j with
        | zero => exact hf
        | succ j => exact ih.1 h0 j (by simpa using hj)
      · rw [if_pos hf] at h0
        exact absurd h0 hf
    · intro hall
      have h0 := hall 0 (by simp)
      rw [if_neg (by simpa using h0)]
      exact ih.2 fun j hj => hall (j + 1) (by simpa using hj)
theorem pick_q {vs : List Cell} (hq : ∀ v ∈ vs, cellQ v) (p : Int) : cellQ (pickC vs p) := by
  unfold pickC
  split
  · rename_i h
    have h2 := h.2
    have h1 := h.1
    exact hq _ (getD_mem (by omega))
  · unfold cellQ cell0
    decide
theorem fitsE_iff (c : Col) (v : Cell) : (cellE' v == 0 && (v.1 == c.2.1 || (v.1 == 0 && c.2.2))) = decide (fitsE c v = 0) := by
  unfold fitsE cellE'
  by_cases h : cellOK v = true
  · by_cases h2 : v.1 = c.2.1
    · simp [h, h2]
    · rw [show (v.1 == c.2.1) = false from beq_eq_false_iff_ne.2 h2, Bool.false_or]
      by_cases h3 : v.1 = 0
      · have h5 : ¬ (0 = c.2.1) := fun e => h2 (h3.trans e)
        cases h4 : c.2.2 <;> simp [h, h5, h3, h4]
      · cases h4 : c.2.2 <;> simp [h, h2, h3, h4]
  · simp [h]
theorem rows_calls {w : World} {A A2 A3 : Option Addr} {n c n2 c2 n3 c3 : Nat} {cs : List Col} {vs : List Cell} {ps : List Int} (h : Sli colE w A n cs) (hc : n ≤ c) (h2 : Sli cellE w A2 n2 vs) (hq : ∀ v ∈ vs, cellQ v) (h3 : Sli intE w A3 n3 ps) :
    Calls Try.prog 6 #[.slice A n c, .slice A2 n2 c2, .slice A3 n3 c3] w (Ret fun v w' => v = .bool true ∧ Ext w w') := by
  apply calls6
  unfold S6
  have l1 := h.len
  have l2 := h2.len
  have l3 := h3.len
  have hle2 := h2.2.1
  refine callW_of (lives_calls w) ?_
  rintro _ w1 ⟨rfl, he1⟩
  refine ⟨_, rfl, splitW_f (by rfl) ?_⟩
  refine callW_of (lightcols_calls (h.ext he1)) ?_
  rintro _ w2 ⟨rfl, he2⟩
  refine ⟨_, rfl, ?_⟩
  have he2 := he1.trans he2
  refine splitW_i (fun _ => ⟨rfl, he2⟩) (fun _ => ?_)
  refine callW_of (lightrow_calls (h2.ext he2)) ?_
  rintro _ w2 ⟨⟨q, rfl, hq20⟩, hw⟩
  subst hw
  refine ⟨_, rfl, ?_⟩
  refine splitW_i (fun _ => ⟨rfl, he2⟩) (fun hql => ?_)
  refine splitW_i (fun _ => ⟨rfl, he2⟩) (fun hp20 => ?_)
  have hp20 := of_decide_eq_false hp20
  refine callW_of (check_calls (h.ext he2) hc) ?_
  rintro _ w3 ⟨rfl, he3⟩
  refine ⟨_, rfl, ?_⟩
  have he3 := he2.trans he3
  refine splitW_i (fun _ => ⟨rfl, he3⟩) (fun hck => ?_)
  have hck := bne_eq_false_iff_eq.1 hck
  have hrow : rowR cs vs = 0 ↔ n2 = n ∧ ∀ j, j < n → fitsE (cs.getD j col0) (vs.getD j cell0) = 0 := by
    unfold rowR
    rw [if_neg (by simpa using hck)]
    by_cases hl : vs.length = cs.length
    · rw [if_neg (by simpa using hl), rowF_zero hl.symm, l1]
      constructor
      · exact fun h => ⟨by omega, h⟩
      · exact fun h => h.2
    · rw [if_pos hl]
      constructor
      · intro h; omega
      · intro h; omega
  refine joinW_s (fun (y : Bool × Unit) w' => y.1 = decide (rowR cs vs = 0) ∧ Ext w w') ?_ (fun J hJ => ?_)
  · rintro ⟨b, _⟩ w4 ⟨hb, he4⟩
    simp only at hb
    subst hb
    refine callW_of (row_calls (c2 := c2) (h.ext he4) hc (h2.ext he4) hq) ?_
    rintro _ w5 ⟨rfl, he5⟩
    refine ⟨_, rfl, ?_⟩
    have he5 := he4.trans he5
    refine splitW_f (by by_cases hz : rowR cs vs = 0 <;> simp [hz]) ?_
    refine callW_of (take_calls (c := c) (c2 := c3) (h.ext he5) (h3.ext he5) (by omega)) ?_
    rintro _ w6 ⟨⟨A6, n6, c6⟩, rfl, ho6, he6⟩
    refine ⟨((A6, n6, c6), (takeR cs ps).2, ()), rfl, ?_⟩
    dsimp only at ho6 ⊢
    have h56 := he6
    have he6 := he5.trans he6
    have hl6 := ho6.len
    have hbad : (takeR cs ps).2 ≠ 0 → n6 = 0 := fun hne => by
      unfold takeR at hne hl6
      split at hne
      · exact absurd rfl hne
      · rename_i hh
        rw [if_neg hh] at hl6
        exact hl6.symm
    refine splitW_i (fun hne => ?_) (fun hne => ?_)
    · have hne := bne_iff_ne.1 hne
      refine splitW_f (by simpa using hne) ⟨?_, he6⟩
      rw [hbad hne]
      rfl
    have hz := bne_eq_false_iff_eq.1 hne
    have hok : ∀ p ∈ ps, okP cs.length p := by
      refine Decidable.byContradiction fun hh => ?_
      unfold takeR at hz
      rw [if_neg hh] at hz
      cases hz
    have etake : (takeR cs ps).1 = takeC cs ps := by unfold takeR; rw [if_pos hok]
    rw [etake] at ho6 hl6
    refine splitW_i (fun hn => ?_) (fun hf => ?_)
    · refine splitW_t (by simpa using hz) ⟨rfl, he6⟩
    have hf : rowR cs vs = 0 := by simpa using hf
    obtain ⟨hn2, hfit⟩ := hrow.1 hf
    refine callW_of (pickc_calls (c := c2) (c2 := c3) (h2.ext he6) (h3.ext he6) (by omega)) ?_
    rintro _ w7 ⟨⟨A7, n7, c7⟩, rfl, ho7, he7⟩
    refine ⟨(A7, n7, c7), rfl, ?_⟩
    dsimp only at ho7 ⊢
    have h67 := he7
    have he7 := he6.trans he7
    have hl7 := ho7.len
    have e6 : n6 = n3 := by rw [← hl6, ← l3]; simp [takeC]
    have e7 : n7 = n3 := by rw [← hl7, ← l3]; simp [pickR]
    subst e6
    subst e7
    refine splitW_f (by simp) (splitW_f (by simp) ?_)
    have hs6 := (ho6.ext h67).sl
    have hle6 := ho6.le
    refine callW_of (check_calls hs6 hle6.1) ?_
    rintro _ w8 ⟨rfl, he8⟩
    refine ⟨_, rfl, ?_⟩
    refine splitW_i (fun _ => ⟨rfl, he7.trans he8⟩) (fun hck6 => ?_)
    have hck6 := bne_eq_false_iff_eq.1 hck6
    refine callW_of (row_calls (hs6.ext he8) hle6.1 (ho7.sl.ext he8) (fun v hv => ?_)) ?_
    · unfold pickR at hv
      obtain ⟨p, _, rfl⟩ := List.mem_map.1 hv
      exact pick_q hq p
    rintro _ w9 ⟨rfl, he9⟩
    refine ⟨_, rfl, ?_, (he7.trans he8).trans he9⟩
    have e9 : rowR (takeC cs ps) (pickR vs ps) = 0 := by
      unfold rowR
      rw [if_neg (by simpa using hck6), if_neg (by simp [takeC, pickR]), rowF_zero (by simp [takeC, pickR])]
      intro j hj
      have hjp : j < ps.length := by simpa [takeC] using hj
      have hp := hok _ (List.getElem_mem hjp)
      have h1 := hp.1
      have h2' := hp.2
      have ea : (takeC cs ps).getD j col0 = cs.getD (ps[j]).toNat col0 := by
        rw [getD_of_lt hj]
        simp only [takeC, List.getElem_map]
      have eb : (pickR vs ps).getD j cell0 = vs.getD (ps[j]).toNat cell0 := by
        rw [getD_of_lt (by simpa [pickR] using hjp)]
        simp only [pickR, List.getElem_map]
        unfold pickC
        rw [if_pos ⟨h1, by omega⟩]
      rw [ea, eb]
      exact hfit _ (by omega)
    rw [e9]
    rfl
  refine loopW_i (fun x w' => Ext w w' ∧ ∃ (i : Nat) (b : Bool), i ≤ n2 ∧ x = (b, (i : Int), ()) ∧ (b = true ↔ n2 = n ∧ ∀ j, j < i → fitsE (cs.getD j col0) (vs.getD j cell0) = 0)) (fun x => (n2 - x.2.1).toNat) ⟨he3, 0, _, by omega, rfl, by rw [beq_iff_eq]; constructor; exact fun h => ⟨by omega, fun j hj => by omega⟩; exact fun h => by omega⟩ ?_
  rintro _ w4 ⟨he4, i, b, hi, rfl, hb⟩
  dsimp only
  by_cases hlt : i < n2
  · refine splitW_t (decide_eq_true (by omega)) ?_
    refine splitW_i (fun hbt => ?_) (fun hbf => ?_)
    · obtain ⟨hnn, hall⟩ := hb.1 hbt
      refine joinW_s (fun (y : Bool × Unit) w' => y.1 = decide (fitsE (cs.getD i col0) (vs.getD i cell0) = 0) ∧ Ext w w') ?_ (fun J9 hJ9 => ?_)
      · rintro ⟨b9, _⟩ w5 ⟨hb9, he5⟩
        simp only at hb9
        subst hb9
        rw [wrap_i64 (by omega) (by omega)]
        refine ⟨⟨he5, i + 1, _, by omega, rfl, ?_⟩, by omega⟩
        rw [decide_eq_true_iff]
        constructor
        · intro hf
          refine ⟨hnn, fun j hj => ?_⟩
          by_cases hji : j = i
          · subst hji; exact hf
          · exact hall j (by omega)
        · exact fun hh => hh.2 i (by omega)
      · refine joinW_s (fun (y : Bool × Unit) w' => y.1 = ((vs.getD i cell0).1 == 0 && (cs.getD i col0).2.2) ∧ Ext w w') ?_ (fun J11 hJ11 => ?_)
        · rintro ⟨b11, _⟩ w5 ⟨hb11, he5⟩
          simp only at hb11
          subst hb11
          refine draw_i fun w6 he6 _ _ => ?_
          have he6 := he5.trans he6
          refine idx_A (ls := [.int .i64, .int .i64, .str]) cT cell0 (h2.ext he6) (fun _ => rfl) rfl (by omega) (by omega) ?_
          rw [Int.toNat_natCast]
          refine callW_of (rvcheck_calls w6 (vs.getD i cell0)) ?_
          rintro _ w7 ⟨rfl, he7⟩
          refine ⟨_, rfl, ?_⟩
          have he7 := he6.trans he7
          rw [← fitsE_iff] at hJ9
          refine splitW_i (fun hz => ?_) (fun hz => ?_)
          · refine idx_f0 (l := .int .i64) (fun c => c.1) cell0 (h2.ext he7) (fun _ => rfl) rfl (by omega) (by omega) ?_
            refine idx_f (l := .int .i64) 1 (fun c => c.2.1) col0 (h.ext he7) (fun _ => rfl) rfl (by omega) (by omega) ?_
            rw [Int.toNat_natCast]
            rw [hz, Bool.true_and] at hJ9
            refine splitW_i (fun hk => ?_) (fun hk => ?_)
            · exact hJ9 _ _ ⟨by rw [hk]; rfl, he7⟩
            · exact hJ9 _ _ ⟨by rw [hk]; rfl, he7⟩
          · rw [hz, Bool.false_and] at hJ9
            exact hJ9 _ _ ⟨rfl, he7⟩
        · refine idx_f0 (l := .int .i64) (fun c => c.1) cell0 (h2.ext he4) (fun _ => rfl) rfl (by omega) (by omega) ?_
          rw [Int.toNat_natCast]
          refine splitW_i (fun hz => ?_) (fun hz => ?_)
          · refine idx_f (l := .bool) 2 (fun c => c.2.2) col0 (h.ext he4) (fun _ => rfl) rfl (by omega) (by omega) ?_
            rw [Int.toNat_natCast]
            exact hJ11 _ _ ⟨by rw [hz]; rfl, he4⟩
          · exact hJ11 _ _ ⟨by rw [hz]; rfl, he4⟩
    · refine hJ _ _ ⟨?_, he4⟩
      rw [hbf]
      symm
      rw [decide_eq_false_iff_not, hrow]
      rintro ⟨h4, h5⟩
      rw [hb.2 ⟨h4, fun j hj => h5 j (by omega)⟩] at hbf
      cases hbf
  · obtain rfl : i = n2 := by omega
    refine splitW_f (decide_eq_false (by omega)) ?_
    refine hJ _ _ ⟨?_, he4⟩
    rw [Bool.eq_iff_iff, decide_eq_true_iff, hrow]
    show b = true ↔ _
    rw [hb]
    constructor
    · exact fun h => ⟨h.1, fun j hj => h.2 j (by omega)⟩
    · exact fun h => ⟨h.1, fun j hj => h.2 j (by omega)⟩
theorem scalls_calls {w : World} {A A2 A3 : Option Addr} {n c n2 c2 n3 c3 : Nat} {cs : List Col} {vs : List Cell} {ps : List Int} {name s : ByteArray} (h : Sli colE w A n cs) (hc : n ≤ c) (h2 : Sli cellE w A2 n2 vs) (hq : ∀ v ∈ vs, cellQ v) (h3 : Sli intE w A3 n3 ps) (hs : s.size ≤ 9223372036854775807) :
    Calls Try.prog 8 #[.slice A n c, .slice A2 n2 c2, .string name, .slice A3 n3 c3, .string s] w (Ret fun v w' => v = .bool true ∧ Ext w w') := by
  apply calls8
  unfold S8
  refine callW_of (lives_calls w) ?_
  rintro _ w1 ⟨rfl, he1⟩
  refine ⟨_, rfl, splitW_f (by rfl) ?_⟩
  refine callW_of (lightcols_calls (h.ext he1)) ?_
  rintro _ w2 ⟨rfl, he2⟩
  refine ⟨_, rfl, ?_⟩
  have he2 := he1.trans he2
  refine splitW_i (fun _ => ⟨rfl, he2⟩) (fun _ => ?_)
  refine callW_of (lightrow_calls (h2.ext he2)) ?_
  rintro _ w2 ⟨⟨q, rfl, hq20⟩, hw⟩
  subst hw
  refine ⟨_, rfl, ?_⟩
  refine splitW_i (fun _ => ⟨rfl, he2⟩) (fun hql => ?_)
  refine splitW_i (fun _ => ⟨rfl, he2⟩) (fun _ => ?_)
  refine splitW_i (fun _ => ⟨rfl, he2⟩) (fun hp20 => ?_)
  have hp20 := of_decide_eq_false hp20
  refine splitW_i (fun _ => ⟨rfl, he2⟩) (fun _ => ?_)
  refine callW_of (find_calls (c := c) (s := name) (h.ext he2)) ?_
  rintro _ w3 ⟨rfl, he3⟩
  refine ⟨((findR name cs).1, (findR name cs).2, ()), rfl, ?_⟩
  have he := he2.trans he3
  refine callW_of (rfind_calls (c := c) (s := name) (h.ext he)) ?_
  rintro _ w3 ⟨rfl, hw⟩
  subst hw
  refine ⟨((findR name cs).1, (findR name cs).2, ()), rfl, ?_⟩
  refine callW_of (take_calls (c := c) (c2 := c3) (h.ext he) (h3.ext he) (by omega)) ?_
  rintro _ w4 ⟨x4, rfl, ho4, he4⟩
  refine ⟨(x4, (takeR cs ps).2, ()), rfl, ?_⟩
  have he := he.trans he4
  refine callW_of (rtake_calls (c := c) (c2 := c3) (h.ext he) (h3.ext he) (by omega)) ?_
  rintro _ w5 ⟨x5, rfl, ho5, he5⟩
  refine ⟨(x5, (takeR cs ps).2, ()), rfl, ?_⟩
  have he := he.trans he5
  have ho4 := ho4.ext he5
  refine callW_of (bytes_calls (h.ext he) hc) ?_
  rintro _ w6 ⟨rfl, he6⟩
  refine ⟨(⟨(bytesR cs).1.toArray⟩, (bytesR cs).2, ()), rfl, ?_⟩
  have he := he.trans he6
  have ho4 := ho4.ext he6
  have ho5 := ho5.ext he6
  refine callW_of (rbytes_calls (c := c) (h.ext he)) ?_
  rintro _ w7 ⟨rfl, he7⟩
  refine ⟨(⟨(bytesR cs).1.toArray⟩, (bytesR cs).2, ()), rfl, ?_⟩
  have he := he.trans he7
  have ho4 := ho4.ext he7
  have ho5 := ho5.ext he7
  refine callW_of (read_calls (w := w7) hs) ?_
  rintro _ w8 ⟨x8, rfl, hr8⟩
  refine ⟨x8, rfl, ?_⟩
  have he := he.trans hr8.2
  have ho4 := ho4.ext hr8.2
  have ho5 := ho5.ext hr8.2
  refine callW_of (rread_calls (w := w8) hs) ?_
  rintro _ w9 ⟨x9, rfl, hr9⟩
  refine ⟨x9, rfl, ?_⟩
  have he := he.trans hr9.2
  have ho4 := ho4.ext hr9.2
  have ho5 := ho5.ext hr9.2
  -- what was read, twice
  have hread : ∃ (cs8 : List Col), Sli colE w9 x8.1.1 x8.1.2.1 cs8 ∧ Sli colE w9 x9.1.1 x9.1.2.1 cs8 ∧ x8.2.1 = x9.2.1 ∧ x8.2.2.1 = x9.2.2.1 := by
    obtain ⟨a8, b8⟩ := hr8
    obtain ⟨a9, b9⟩ := hr9
    cases hR : readR (B s) with
    | none =>
      rw [hR] at a8 a9
      subst a8 a9
      exact ⟨[], Sli.nil _ _, Sli.nil _ _, rfl, rfl⟩
    | some p =>
      rw [hR] at a8 a9
      obtain ⟨q1, q2, q3⟩ := a8
      obtain ⟨p1, p2, p3⟩ := a9
      exact ⟨p.1, (q1.ext b9).sl, p1.sl, by rw [q2, p2], by rw [q3, p3]⟩
  obtain ⟨cs8, hs8, hs9, e1, e2⟩ := hread
  clear hr8 hr9
  refine joinW_s (fun (y : Bool × Unit) w' => y.1 = true ∧ Ext w w') ?_ (fun J hJ => ?_)
  · rintro ⟨b, _⟩ w10 ⟨hb, he10⟩
    simp only at hb
    subst hb
    exact ⟨rfl, he10⟩
  refine callW_of (name_calls w9 name) ?_
  rintro _ w10 ⟨rfl, he10⟩
  refine ⟨_, rfl, ?_⟩
  refine callW_of (rname_calls w10 name) ?_
  rintro _ w11 ⟨rfl, he11⟩
  refine ⟨_, rfl, ?_⟩
  have hx := he10.trans he11
  refine splitW_t (by simp) ?_
  refine callW_of (check_calls (h.ext (he.trans hx)) hc) ?_
  rintro _ w12 ⟨rfl, he12⟩
  refine ⟨_, rfl, ?_⟩
  have hx := hx.trans he12
  refine callW_of (rcheck_calls (c := c) (h.ext (he.trans hx))) ?_
  rintro _ w13 ⟨rfl, he13⟩
  refine ⟨_, rfl, ?_⟩
  have hx := hx.trans he13
  refine splitW_t (by simp) ?_
  refine callW_of (row_calls (c2 := c2) (h.ext (he.trans hx)) hc (h2.ext (he.trans hx)) hq) ?_
  rintro _ w14 ⟨rfl, he14⟩
  refine ⟨_, rfl, ?_⟩
  have hx := hx.trans he14
  refine callW_of (rrow_calls (c := c) (c2 := c2) (h.ext (he.trans hx)) (h2.ext (he.trans hx))) ?_
  rintro _ w15 ⟨rfl, he15⟩
  refine ⟨_, rfl, ?_⟩
  have hx := hx.trans he15
  refine splitW_t (by simp) (splitW_t (by simp) (splitW_t (by simp) ?_))
  refine callW_of (samecols_calls (ho4.sl.ext hx) (ho5.sl.ext hx)) ?_
  rintro _ w16 ⟨⟨b, rfl, hb⟩, he16⟩
  refine ⟨_, rfl, ?_⟩
  have hx := hx.trans he16
  refine splitW_t (hb.2 rfl) (splitW_t (by simp) (splitW_t (by simp) (splitW_t (by simp) ?_)))
  refine callW_of (samecols_calls (hs8.ext hx) (hs9.ext hx)) ?_
  rintro _ w17 ⟨⟨b2, rfl, hb2⟩, he17⟩
  refine ⟨_, rfl, ?_⟩
  have hx := hx.trans he17
  refine splitW_t (hb2.2 rfl) (splitW_t (by rw [e1]; simp) (splitW_t (by rw [e2]; simp) ?_))
  have he := he.trans hx
  refine callW_of (pickc_calls (c := c2) (c2 := c3) (h2.ext he) (h3.ext he) (by omega)) ?_
  rintro _ w18 ⟨x18, rfl, ho18, he18⟩
  refine ⟨x18, rfl, ?_⟩
  have he := he.trans he18
  refine new_i fun r1 w19 hb19 he19 _ _ => ?_
  have he := he.trans he19
  have ho18 := ho18.ext he19
  refine callW_of (rpick_calls (c := c2) (c2 := c3) (h2.ext he) (h3.ext he) (by omega)) ?_
  rintro _ w20 ⟨x20, rfl, ho20, he20⟩
  refine ⟨x20, rfl, ?_⟩
  have he := he.trans he20
  refine new_i fun r2 w21 hb21 he21 _ _ => ?_
  have he := he.trans he21
  have ho18 := (ho18.ext he20).ext he21
  have hb19 := (hb19.ext he20).ext he21
  refine callW_of (samerows1_calls hb19 hb21 ho18.sl (ho20.ext he21).sl) ?_
  rintro _ w22 ⟨⟨b3, rfl, hb3⟩, he22⟩
  exact ⟨_, rfl, hJ _ _ ⟨hb3.2 rfl, he.trans he22⟩⟩
end Go.Proofs.Ytiihdgodghaobaa.V
