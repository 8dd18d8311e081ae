/- CountsTake, as a contract. -/
import Derived.Test.YtmogbadaoaikcaaLT
set_option linter.unusedVariables false
set_option linter.unusedSimpArgs false
namespace Go.Proofs.Ytmogbadaoaikcaa.V
open Go Go.Proofs Go.RowKit

theorem bit_of {x i : Nat} (hi : i < 64) : Int.tmod (ishr .u64 (x : Int) (IntKind.wrap .u64 (i : Int))) (2 : Int) == (1 : Int) ↔ x.testBit i = true := by
  rw [wrap_u64_nat (by omega), ishr_nat .u64 x i (by simp [IntKind.bits]; omega)]
  rw [show Int.tmod ((x / 2 ^ i : Nat) : Int) (2 : Int) = ((x / 2 ^ i % 2 : Nat) : Int) from rfl, Nat.testBit_eq_decide_div_mod_eq, decide_eq_true_eq, beq_iff_eq]
  omega
theorem bit_beq {x i : Nat} (hi : i < 64) : (Int.tmod (ishr .u64 (x : Int) (IntKind.wrap .u64 (i : Int))) (2 : Int) == (1 : Int)) = x.testBit i := by
  have := bit_of (x := x) hi
  cases h : x.testBit i <;> cases h2 : (Int.tmod (ishr .u64 (x : Int) (IntKind.wrap .u64 (i : Int))) (2 : Int) == (1 : Int)) <;> simp_all
/-- Two Counts of their own. -/
structure Two (w0 w : World) (b r b2 r2 : Nat) (size : Int) (l l2 : List Nat) : Prop where
  one : Cnt w b r size [] l
  two : Cnt w b2 r2 size [] l2
  ne1 : b2 ≠ r
  ne2 : r2 ≠ r
  ne3 : b ≠ r2
  ext : Ext w0 w
  own1 : w0.heap.size ≤ r
  own2 : w0.heap.size ≤ r2
theorem Two.up1 {w0 w w' : World} {b r b2 r2 : Nat} {size : Int} {l l' l2 : List Nat} (h : Two w0 w b r b2 r2 size l l2) (hc : Cnt w' b r size [] l') (hg : w.grownBy w' (some r)) : Two w0 w' b r b2 r2 size l' l2 :=
  ⟨hc, h.two.kept hg h.ne1 h.ne2, h.ne1, h.ne2, h.ne3, h.ext.grown hg (fun j hj => by injection hj with hj; have := h.own1; omega), h.own1, h.own2⟩
theorem Two.up2 {w0 w w' : World} {b r b2 r2 : Nat} {size : Int} {l l2 l2' : List Nat} (h : Two w0 w b r b2 r2 size l l2) (hc : Cnt w' b2 r2 size [] l2') (hg : w.grownBy w' (some r2)) : Two w0 w' b r b2 r2 size l l2' :=
  ⟨h.one.kept hg h.ne3 (fun e => h.ne2 e.symm), hc, h.ne1, h.ne2, h.ne3, h.ext.grown hg (fun j hj => by injection hj with hj; have := h.own2; omega), h.own1, h.own2⟩
theorem Two.more {w0 w w' : World} {b r b2 r2 : Nat} {size : Int} {l l2 : List Nat} (h : Two w0 w b r b2 r2 size l l2) (he : Ext w w') : Two w0 w' b r b2 r2 size l l2 :=
  ⟨h.one.ext he, h.two.ext he, h.ne1, h.ne2, h.ne3, h.ext.trans he, h.own1, h.own2⟩
theorem ctake_calls (w : World) {size blocks : Int} {held used : Nat} (hb0 : -9223372036854775808 ≤ blocks) (hb1 : blocks < 9223372036854775808) (hh : held < 18446744073709551616) (hu : used < 18446744073709551616) :
    Calls Try.prog 3 #[.agg #[.int .i64 size, .int .i64 blocks], .int .u64 (held : Int), .int .u64 (used : Int)] w (Ret fun v w' => v = .bool true ∧ Ext w w') := by
  apply calls3
  unfold S3
  apply newW_i
  have hb : Blk (w.alloc (.cells #[(.int .i64 size), (.int .i64 blocks)] 23)) w.heap.size [(.int .i64 size), (.int .i64 blocks)] 23 := Blk.new w _ _
  have he0 : Ext w (w.alloc (.cells #[(.int .i64 size), (.int .i64 blocks)] 23)) := (Ext.refl w).alloc _
  generalize w.alloc (.cells #[(.int .i64 size), (.int .i64 blocks)] 23) = w0 at hb he0 ⊢
  obtain ⟨gb, hgb⟩ : ∃ gb, gb = w.heap.size := ⟨_, rfl⟩
  rw [← hgb] at hb ⊢
  refine callW_of (lives_calls w0) ?_
  rintro _ w1 ⟨rfl, he1⟩
  refine ⟨_, rfl, ?_⟩
  refine splitW_f (by rfl) ?_
  have rdg : ∀ {w' : World} {K : (Int × Int × Unit) → WP}, Ext w0 w' → K (size, blocks, ()) w' → ldAW [(.int .i64), (.int .i64)] ⟨gb, 0, none⟩ K w' := fun {w' K} he hk => ldA_blk (ls := [(.int .i64), (.int .i64)]) (x := (size, blocks, ())) (hb.ext he) rfl hk
  refine rdg he1 ?_
  refine callW_of (new_calls w1 size blocks) ?_
  rintro _ w2 ⟨x, rfl, hx, he2⟩
  refine ⟨(x, (if geoOK size blocks then 0 else 2), ()), rfl, ?_⟩
  have he02 := he1.trans he2
  refine rdg he02 ?_
  refine callW_of (new_calls w2 size blocks) ?_
  rintro _ w3 ⟨x2, rfl, hx2, he3⟩
  refine ⟨(x2, (if geoOK size blocks then 0 else 2), ()), rfl, ?_⟩
  have he03 := he02.trans he3
  refine rdg he03 ?_
  refine callW_of (lightgeo_calls w3 size blocks) ?_
  rintro _ w4 ⟨rfl, he4⟩
  refine ⟨_, rfl, ?_⟩
  have he04 := he03.trans he4
  refine splitW_i (fun _ => ⟨rfl, he0.trans he04⟩) (fun hlight => ?_)
  dsimp only
  cases hok : geoOK size blocks with
  | false => rw [if_neg (by simp)]; exact splitW_t (by rfl) ⟨rfl, he0.trans he04⟩
  | true =>
  rw [if_pos rfl]
  refine splitW_f (by rfl) ?_
  rw [hok, if_pos rfl] at hx hx2
  obtain ⟨b, r, rfl, hc, hbw, hrw⟩ := hx
  obtain ⟨b2, r2, rfl, hc2, hbw2, hrw2⟩ := hx2
  unfold geoOK at hok
  have hok := of_decide_eq_true hok
  obtain ⟨n, rfl⟩ : ∃ n : Nat, blocks = n := ⟨blocks.toNat, by omega⟩
  have hn : 8 ≤ n ∧ n ≤ 40 := by
    have hl : lightGeo size (n : Int) = true := by simpa using hlight
    unfold lightGeo at hl
    rw [if_neg (by omega)] at hl
    have := of_decide_eq_true hl
    omega
  rw [Int.toNat_natCast, newL_fl hn.1] at hc hc2
  have hrlt := hc.row.lt
  have hblt := hc.head.lt
  have hT : Two w w4 b r b2 r2 size (fl n (f1 2)) (fl n (f1 2)) := by
    have hs0 := (he0.trans he1).size
    exact ⟨(hc.ext he3).ext he4, hc2.ext he4, by omega, by omega, by omega, he0.trans he04, by omega, by have := he2.size; omega⟩
  have rdb : ∀ {w' : World} {K : Int → WP}, Ext w0 w' → K (n : Int) w' → ldW (.int .i64) ((⟨gb, 0, none⟩ : Addr).add 1) K w' := fun {w' K} he hk => ld_blk (o := 1) (x := (n : Int)) (hb.ext he) (by rfl) hk
  have hgrow : ∀ {w' w'' : World} {k : Nat}, Ext w0 w' → w0.heap.size ≤ k → w'.grownBy w'' (some k) → Ext w0 w'' := fun he hk hg => he.grown hg (fun j hj => by injection hj with hj; omega)
  have hr0 : w0.heap.size ≤ r := by have := he1.size; omega
  have hr20 : w0.heap.size ≤ r2 := by have := he02.size; omega
  refine loopW_i (fun y w' => ∃ i : Nat, 2 ≤ i ∧ i ≤ n ∧ y = ((i : Int), ()) ∧ Ext w0 w' ∧ Two w w' b r b2 r2 size (fl n (f1 i)) (fl n (f1 i))) (fun y => (n - y.1).toNat) ⟨2, by omega, by omega, rfl, he04, hT⟩ ?_
  rintro _ w5 ⟨i, hi2, hi, rfl, he5, hT5⟩
  dsimp only
  refine rdb he5 ?_
  by_cases hlt : i < n
  · refine splitW_t (decide_eq_true (by omega)) ?_
    refine callW_of (take_calls hT5.one (.inl ⟨rfl, rfl⟩)) ?_
    rintro _ w6 ⟨rfl, hc6, hg6⟩
    refine ⟨((takeN (fl n (f1 i)) [] : Nat), takeE (fl n (f1 i)) [], ()), rfl, ?_⟩
    rw [takeL_f1 hlt] at hc6
    have hT6 := hT5.up1 hc6 hg6
    refine callW_of (take_calls hT6.two (.inl ⟨rfl, rfl⟩)) ?_
    rintro _ w7 ⟨rfl, hc7, hg7⟩
    refine ⟨((takeN (fl n (f1 i)) [] : Nat), takeE (fl n (f1 i)) [], ()), rfl, ?_⟩
    rw [takeL_f1 hlt] at hc7
    rw [wrap_i64 (by omega) (by omega)]
    exact ⟨⟨i + 1, by omega, by omega, rfl, hgrow (hgrow he5 hr0 hg6) hr20 hg7, hT6.up2 hc7 hg7⟩, by omega⟩
  obtain rfl : i = n := by omega
  refine splitW_f (decide_eq_false (by omega)) ?_
  obtain ⟨n, hnn⟩ : ∃ n, n = i := ⟨_, rfl⟩
  subst hnn
  clear hlt hi2 hi
  -- the second loop
  obtain ⟨p, hp⟩ : ∃ p : Nat → Bool, p = fun j => !used.testBit j && !held.testBit j := ⟨_, rfl⟩
  have hT5' : Two w w5 b r b2 r2 size (fl n (f2 used 2)) (fl n (f2 held 2)) := by rw [← f1_f2, ← f1_f2]; exact hT5
  refine loopW_i (fun y w' => ∃ i : Nat, 2 ≤ i ∧ i ≤ n ∧ y = (((cntF p i 2 : Nat) : Int), (i : Int), ()) ∧ Ext w0 w' ∧ Two w w' b r b2 r2 size (fl n (f2 used i)) (fl n (f2 held i))) (fun y => (n - y.2.1).toNat) ⟨2, by omega, by omega, by simp [cntF, List.range_succ], he5, hT5'⟩ ?_
  rintro _ w6 ⟨i, hi2, hi, rfl, he6, hT6⟩
  dsimp only
  refine rdb he6 ?_
  by_cases hlt : i < n
  · refine splitW_t (decide_eq_true (by omega)) ?_
    rw [bit_beq (x := used) (i := i) (by omega), bit_beq (x := held) (i := i) (by omega), wrap_u32_nat (a := i) (by omega), wrap_i64 (x := (i : Int) + 1) (by omega) (by omega)]
    have hcle := cntF_le p i 2
    have hup := cntF_up (p := p) hi2
    refine joinW_s (fun (x : Int × Unit) w' => x.1 = ((cntF p (i + 1) 2 : Nat) : Int) ∧ Ext w0 w' ∧ Two w w' b r b2 r2 size (fl n (f2 used (i + 1))) (fl n (f2 held (i + 1)))) ?_ (fun J hJ => ?_)
    · rintro ⟨c, _⟩ w7 ⟨hcc, he7, hT7⟩
      simp only at hcc
      subst hcc
      exact ⟨⟨i + 1, by omega, by omega, rfl, he7, hT7⟩, by omega⟩
    · refine guard_i (by rw [wrap_u64_nat (by omega)]; omega) (guard_i (by rw [wrap_u64_nat (by omega)]; omega) ?_)
      have hpi : p i = (!used.testBit i && !held.testBit i) := by rw [hp]
      rw [wrap_i64 (x := ((cntF p i 2 : Nat) : Int) + 1) (by omega) (by omega)]
      cases hub : used.testBit i with
      | false =>
        refine splitW_t (by rfl) ?_
        refine callW_of (sub_calls hT6.one i (by omega)) ?_
        rintro _ w7 ⟨rfl, hc7, hg7⟩
        refine ⟨((subN (fl n (f2 used i)) i : Nat), atE (fl n (f2 used i)) i, ()), rfl, ?_⟩
        rw [sub_f2 hi2 hlt hub] at hc7
        have hT7 := hT6.up1 hc7 hg7
        have he7 := hgrow he6 hr0 hg7
        cases hkb : held.testBit i with
        | false =>
          refine splitW_t (by rfl) ?_
          refine callW_of (sub_calls hT7.two i (by omega)) ?_
          rintro _ w8 ⟨rfl, hc8, hg8⟩
          refine ⟨((subN (fl n (f2 held i)) i : Nat), atE (fl n (f2 held i)) i, ()), rfl, ?_⟩
          rw [sub_f2 hi2 hlt hkb] at hc8
          refine splitW_t (by rfl) (splitW_t (by rfl) (hJ _ _ ⟨?_, hgrow he7 hr20 hg8, hT7.up2 hc8 hg8⟩))
          simp only
          rw [hup, hpi, hub, hkb]
          simp
        | true =>
          refine splitW_f (by rfl) (splitW_t (by rfl) (splitW_f (by rfl) (hJ _ _ ⟨?_, he7, ?_⟩)))
          · simp only
            rw [hup, hpi, hub, hkb]
            simp
          · rw [← keep_f2 hi2 hkb]; exact hT7
      | true =>
        refine splitW_f (by rfl) ?_
        rw [← keep_f2 hi2 hub] at hJ
        cases hkb : held.testBit i with
        | false =>
          refine splitW_t (by rfl) ?_
          refine callW_of (sub_calls hT6.two i (by omega)) ?_
          rintro _ w8 ⟨rfl, hc8, hg8⟩
          refine ⟨((subN (fl n (f2 held i)) i : Nat), atE (fl n (f2 held i)) i, ()), rfl, ?_⟩
          rw [sub_f2 hi2 hlt hkb] at hc8
          refine splitW_f (by rfl) (hJ _ _ ⟨?_, hgrow he6 hr20 hg8, hT6.up2 hc8 hg8⟩)
          simp only
          rw [hup, hpi, hub, hkb]
          simp
        | true =>
          rw [← keep_f2 hi2 hkb] at hJ
          refine splitW_f (by rfl) (splitW_f (by rfl) (hJ _ _ ⟨?_, he6, hT6⟩))
          simp only
          rw [hup, hpi, hub, hkb]
          simp
  obtain rfl : i = n := by omega
  refine splitW_f (decide_eq_false (by omega)) ?_
  obtain ⟨n, hnn⟩ : ∃ n, n = i := ⟨_, rfl⟩
  subst hnn
  clear hlt hi2 hi
  -- the third loop
  obtain ⟨hL, hhL⟩ : ∃ hL, hL = fl n (f2 held n) := ⟨_, rfl⟩
  obtain ⟨q, hqd⟩ : ∃ q : Nat → Bool, q = freeAt (fl n (f2 used n)) hL := ⟨_, rfl⟩
  have hq : ∀ i, i < n → q i = freeAt (fl n (f2 used n)) hL i := fun i _ => by rw [hqd]
  have hlenh : hL.length = n := by rw [hhL, length_fl]
  have hq01 : ∀ i, i < 2 → q i = false := fun i hi => by
    rw [hqd]
    unfold freeAt
    rw [getD_fl (by omega)]
    unfold f2
    rw [if_pos (.inl hi)]
    rfl
  have hpq : cntF p n 2 = cntF q n 2 := cntF_congr fun i h1 h2 => by
    rw [hp, hqd, hhL]
    unfold freeAt
    rw [getD_fl h2, getD_fl h2]
    unfold f2
    have h3 : ¬ (i < 2 ∨ n ≤ i) := by omega
    simp only [if_neg h3]
    cases used.testBit i <;> cases held.testBit i <;> rfl
  rw [hpq]
  have hstart : fl n (f2 used n) = fl n (f3 (f2 used n) q 1) := list_fl (length_fl _ _) fun i hi => by
    rw [getD_fl hi]
    unfold f3
    by_cases h2 : i ≤ 1
    · rw [hq01 i (by omega), Bool.and_false]; rfl
    · rw [decide_eq_false h2]; rfl
  rw [← hhL, hstart] at hT6
  obtain ⟨f, hf⟩ : ∃ f, f = f2 used n := ⟨_, rfl⟩
  rw [← hf] at hT6 hq
  have hfree := cntF_le q n 2
  have held' : ∀ {w' : World} {l : List Nat}, l.length = n → Two w w' b r b2 r2 size l hL → HeldC w' (some ⟨b2, 0, none⟩) b r size l.length hL := fun hl hT => .inr ⟨b2, r2, rfl, ⟨[], hT.two⟩, by rw [hl, hlenh], hT.ne1, hT.ne2⟩
  refine loopW_i (fun y w' => ∃ (last m : Nat), 1 ≤ last ∧ last < n ∧ y = ((last : Int), (m : Int), ()) ∧ m + cntF q n (last + 1) = cntF q n 2 ∧ Two w w' b r b2 r2 size (fl n (f3 f q last)) hL) (fun y => (cntF q n 2 - y.2.1).toNat) ⟨1, 0, by omega, by omega, rfl, Nat.zero_add _, hT6⟩ ?_
  rintro _ w7 ⟨last, m, hl1, hln, rfl, hm, hT7⟩
  dsimp only
  by_cases hlt : m < cntF q n 2
  · refine splitW_t (decide_eq_true (by omega)) ?_
    obtain ⟨x, hx1, hx2, hx3, hx4, hx5⟩ := cntF_pos (p := q) (n := n) (a := last + 1) (by omega)
    obtain ⟨ht1, ht2⟩ := take_f3 (last := last) hq hx2 (by omega) hx3 hx4
    refine callW_of (all_calls hT7.one) ?_
    rintro _ w8 ⟨⟨A, na, ca⟩, rfl, ho8, he8⟩
    refine ⟨(A, na, ca), rfl, ?_⟩
    dsimp only at ho8 ⊢
    have hT8 := hT7.more he8
    have hna : na = n := by rw [← ho8.len]; simp [allL, length_fl]
    subst hna
    have hr7 := hT7.one.row.lt
    refine callW_of (take_calls hT8.one (held' (length_fl _ _) hT8)) ?_
    rintro _ w9 ⟨rfl, hc9, hg9⟩
    have e1 : takeN (fl na (f3 f q last)) hL = x := by unfold takeN; rw [ht1, length_fl, if_pos hx2]
    have e2 : takeE (fl na (f3 f q last)) hL = 0 := by unfold takeE; rw [ht1, length_fl, if_pos hx2]
    rw [e1, e2]
    rw [ht2] at hc9
    refine ⟨((x : Int), 0, ()), rfl, ?_⟩
    have hT9 := hT8.up1 hc9 hg9
    have ho9 := ho8.grown hg9 (fun j hj hjj => by
      injection hj with hj
      have := ho8.row j hjj
      omega)
    have hel : ∀ i, i < na → (allL (fl na (f3 f q last)))[i]? = some (((fl na (f3 f q last)).getD i 0 : Nat) : Int) := fun i hi => by
      unfold allL
      rw [List.getElem?_map, List.getElem?_eq_getElem (by rw [length_fl]; exact hi), List.getD_eq_getElem?_getD, List.getElem?_eq_getElem (by rw [length_fl]; exact hi)]
      rfl
    have hfr := takeI_is (l := fl na (f3 f q last)) (hl := hL) (by rw [ht1, length_fl]; exact hx2)
    rw [ht1] at hfr
    have hfr2 : (fl na (f3 f q last)).getD x 0 = 0 ∧ hL.getD x 0 = 0 := by
      unfold freeAt at hfr
      rw [Bool.and_eq_true, beq_iff_eq, beq_iff_eq] at hfr
      exact hfr
    dsimp only
    refine joinW_s (fun (y : Bool × Unit) w' => y.1 = false ∧ w' = w9) ?_ (fun J hJ => ?_)
    · rintro ⟨bb, _⟩ w10 ⟨hbb, rfl⟩
      simp only at hbb
      subst hbb
      refine splitW_f rfl ?_
      rw [wrap_i64 (x := (last : Int)) (by omega) (by omega), wrap_i64 (x := (last : Int) + 1) (by omega) (by omega), wrap_i64 (x := (x : Int)) (by omega) (by omega), wrap_i64 (x := (m : Int) + 1) (by omega) (by omega)]
      refine loopW_i (fun y w' => w' = w10 ∧ ∃ i : Nat, last + 1 ≤ i ∧ i ≤ x ∧ y = ((i : Int), ())) (fun y => (x - y.1).toNat) ⟨rfl, last + 1, by omega, by omega, rfl⟩ ?_
      rintro _ _ ⟨rfl, i, hi1, hi2, rfl⟩
      dsimp only
      rename_i w10
      by_cases hix : i < x
      · refine splitW_t (decide_eq_true (by omega)) ?_
        refine idx_el ho9.sl (by omega) (x := (((fl na (f3 f q last)).getD i 0 : Nat) : Int)) (by rw [Int.toNat_natCast]; exact hel i (by omega)) rfl ?_
        intro p2 hp2 hcell
        refine ld_i (by have := hcell.1; rw [add_zero] at this; exact this) ?_
        rw [wrap_i64 (x := (i : Int) + 1) (by omega) (by omega)]
        have hnf : freeAt (fl na (f3 f q last)) hL i = false := takeI_not (by rw [ht1]; exact hix)
        refine splitW_i (fun h0 => ?_) (fun h0 => ⟨⟨rfl, i + 1, by omega, by omega, rfl⟩, by omega⟩)
        rw [wrap_u32_nat (by omega)]
        refine callW_of (get_calls hT9.two i (by omega)) ?_
        rintro _ w11 ⟨rfl, hw11⟩
        subst hw11
        refine ⟨_, rfl, ?_⟩
        refine splitW_f ?_ ⟨⟨rfl, i + 1, by omega, by omega, rfl⟩, by omega⟩
        unfold freeAt at hnf
        rw [beq_iff_eq] at h0
        rw [show (fl na (f3 f q last)).getD i 0 = 0 by omega] at hnf
        rw [beq_eq_false_iff_ne]
        intro hz
        rw [show hL.getD i 0 = 0 by omega] at hnf
        cases hnf
      · obtain rfl : i = x := by omega
        refine splitW_f (decide_eq_false (by omega)) ?_
        exact ⟨⟨i, m + 1, by omega, hx2, rfl, by omega, hT9⟩, by omega⟩
    · refine splitW_f (by rfl) ?_
      refine splitW_f (decide_eq_false (by omega)) ?_
      refine splitW_f (by rw [wrap_u64_nat (by omega), wrap_u64_nat (by omega)]; exact decide_eq_false (by omega)) ?_
      refine idx_el ho9.sl (by omega) (x := (((fl na (f3 f q last)).getD x 0 : Nat) : Int)) (by rw [Int.toNat_natCast]; exact hel x hx2) rfl ?_
      intro p2 hp2 hcell
      refine ld_i (by have := hcell.1; rw [add_zero] at this; exact this) ?_
      rw [hfr2.1]
      refine splitW_f (by rfl) ?_
      refine callW_of (get_calls hT9.two x (by omega)) ?_
      rintro _ w11 ⟨rfl, hw11⟩
      subst hw11
      refine ⟨_, rfl, ?_⟩
      rw [hfr2.2]
      refine splitW_f (by rfl) ?_
      refine callW_of (get_calls hT9.one x (by omega)) ?_
      rintro _ w12 ⟨rfl, hw12⟩
      subst hw12
      refine ⟨_, rfl, ?_⟩
      have e3 : (fl na (f3 f q x)).getD x 0 = 1 := by
        rw [getD_fl hx2]
        unfold f3
        rw [decide_eq_true (Nat.le_refl _), hx3]
        rfl
      rw [e3]
      exact hJ _ _ ⟨rfl, rfl⟩
  · refine splitW_f (decide_eq_false (by omega)) ?_
    have hzero : cntF q n (last + 1) = 0 := by omega
    have htn := none_f3 (last := last) hq (cntF_zero hzero)
    refine callW_of (take_calls hT7.one (held' (length_fl _ _) hT7)) ?_
    rintro _ w8 ⟨rfl, hc8, hg8⟩
    have e2 : takeE (fl n (f3 f q last)) hL = 9 := by unfold takeE; rw [htn, length_fl, if_neg (by omega)]
    refine ⟨((takeN (fl n (f3 f q last)) hL : Nat), takeE (fl n (f3 f q last)) hL, ()), rfl, ?_⟩
    dsimp only
    rw [e2]
    exact ⟨rfl, (hT7.up1 hc8 hg8).ext⟩
end Go.Proofs.Ytmogbadaoaikcaa.V
