/- Contracts of the package super, and of the document's answer (11): pages, checks, blocks. -/
import Derived.Test.YtiiemgndnpflbaaKSup
import Derived.Test.YtiiemgndnpflbaaKKit2
import Derived.Test.YtiiemgndnpflbaaKRef02
set_option linter.unusedVariables false
set_option linter.unusedSimpArgs false
namespace Go.Proofs.Ytiiemgndnpflbaa.V
open Go Go.Proofs Go.RowKit Crc

/-! ### Boxes -/
theorem boxAt {ls : List Lf} {w : World} {b o : Nat} {cs rest : List Value} {t : TypeId} {K : LT ls → WP} (x : LT ls) (h : Blk w b cs t) (hx : cs.drop o = LT.vals ls x ++ rest) (hK : K x w) : ldAW ls ((⟨b, 0, none⟩ : Addr).add o) K w := by
  refine ldA_i (x := x) ?_ hK
  refine cellsAt_of (a := ⟨b, 0, none⟩) rfl (vs := LT.vals ls x) (o := o) ?_ _ 0 rfl
  intro j v hj
  rw [add_mk, h.cell, Nat.zero_add, ← List.getElem?_drop, hx, List.getElem?_append_left]
  · exact hj
  · exact (List.getElem?_eq_some_iff.1 hj).1
theorem boxF2 {l : Lf} {w : World} {b : Nat} {cs : List Value} {t : TypeId} {K : l.T → WP} (x : l.T) (h : Blk w b cs t) (hx : cs[2]? = some (l.val x)) (hK : K x w) : ldW l (((⟨b, 0, none⟩ : Addr).add 1).add 1) K w := by
  rw [show (((⟨b, 0, none⟩ : Addr).add 1).add 1) = (⟨b, 0, none⟩ : Addr).add 2 by simp only [add_mk]]
  exact boxF 2 x h hx hK
theorem held1 {w : World} {a : Addr} {v : Value} {K : WP} (h : w.cell? a = some v) (hK : K w) : heldW [[(a, v)]] K w := by
  refine ⟨fun l hl p hp => ?_, hK⟩
  simp only [List.mem_singleton] at hl
  subst hl
  simp only [List.mem_singleton] at hp
  subst hp
  exact h
theorem heldF {w : World} {b o : Nat} {cs : List Value} {t : TypeId} {v : Value} {K : WP} (h : Blk w b cs t) (hv : cs[o]? = some v) (hK : K w) : heldW [[((⟨b, 0, none⟩ : Addr).add o, v)]] K w :=
  held1 (by rw [add_mk, h.cell, Nat.zero_add]; exact hv) hK

/-! ### Supers in memory -/
abbrev SLC := Option Addr × Nat × Nat
abbrev sLs : List Lf := [.int .u64, .int .i64, .int .i64, .int .u32, .slc]
def sT (s : Sup) (x : SLC) : Int × Int × Int × Int × SLC × Unit := ((s.gen : Int), s.size, s.blocks, (s.root : Int), x, ())
def sV (s : Sup) (x : SLC) : List Value := [.int .u64 (s.gen : Int), .int .i64 s.size, .int .i64 s.blocks, .int .u32 (s.root : Int), .slice x.1 x.2.1 x.2.2]
theorem sV_one (s : Sup) (x : SLC) : ∀ v ∈ sV s x, v.oneCell' = true := by
  intro v hv
  simp only [sV, List.mem_cons, List.not_mem_nil, or_false] at hv
  rcases hv with rfl | rfl | rfl | rfl | rfl <;> rfl
/-- A slice of numbers. -/
structure Pg (w : World) (x : SLC) (ps : List Nat) : Prop where
  sl : Sli (numE .u32) w x.1 x.2.1 ps
  nc : x.2.1 ≤ x.2.2
theorem Pg.ext {w w' : World} {x : SLC} {ps : List Nat} (h : Pg w x ps) (he : Ext w w') : Pg w' x ps := ⟨h.sl.ext he, h.nc⟩
theorem Pg.nil (w : World) : Pg w (none, 0, 0) [] := ⟨Sli.nil w none, Nat.le_refl _⟩
theorem Pg.len {w : World} {x : SLC} {ps : List Nat} (h : Pg w x ps) : ps.length = x.2.1 := h.sl.len
theorem pages_calls (w : World) (size blocks : Int) : Calls Try.prog 14 #[.agg #[.int .i64 size, .int .i64 blocks]] w (Ret fun v w' => v = .int .i64 (pagesOf size blocks) ∧ Ext w w') := by
  apply calls14
  unfold S14 pagesOf
  refine new_i fun r1 w1 hb1 he1 _ _ => ?_
  refine boxA (ls := [.int .i64, .int .i64]) (size, blocks, ()) hb1 rfl ?_
  refine callW_of (devcheck_calls w1 size blocks) ?_
  rintro _ w2 ⟨rfl, he2⟩
  refine ⟨_, rfl, ?_⟩
  have hb1 := hb1.ext he2
  have he := he1.trans he2
  cases hg : geoOK size blocks with
  | false => exact splitW_t (by rfl) ⟨rfl, he⟩
  | true =>
    obtain ⟨h0, h1, h2, h3, h4⟩ := geo_room hg
    refine splitW_f (by rfl) ?_
    refine box0 size hb1 (by rfl) ?_
    refine callW_of (room_calls w2 size) ?_
    rintro _ w3 ⟨rfl, he3⟩
    refine ⟨_, rfl, ?_⟩
    have hb1 := hb1.ext he3
    refine boxF 1 blocks hb1 (by rfl) (guard_i (by omega) ?_)
    rw [if_pos rfl]
    have hd : Int.tdiv (2 * blocks + roomOf size - 1) (roomOf size) = (2 * blocks + roomOf size - 1) / roomOf size := Int.tdiv_eq_ediv_of_nonneg (by omega)
    have hle := Int.ediv_le_self (a := 2 * blocks + roomOf size - 1) (roomOf size) (by omega)
    have h0' := Int.ediv_nonneg (a := 2 * blocks + roomOf size - 1) (b := roomOf size) (by omega) (by omega)
    rw [wrap_i64 (x := 2 * blocks) (by omega) (by omega), wrap_i64 (x := 2 * blocks + roomOf size) (by omega) (by omega), wrap_i64 (x := 2 * blocks + roomOf size - 1) (by omega) (by omega), hd, wrap_i64 (by omega) (by omega)]
    exact ⟨rfl, he.trans he3⟩
theorem rpages_calls (w : World) (size blocks : Int) : Calls Try.prog 25 #[.agg #[.int .i64 size, .int .i64 blocks]] w (Ret fun v w' => v = .int .i64 (pagesOf size blocks) ∧ Ext w w') := by
  apply calls25
  unfold S25 pagesOf
  refine new_i fun r1 w1 hb1 he1 _ _ => ?_
  refine boxA (ls := [.int .i64, .int .i64]) (size, blocks, ()) hb1 rfl ?_
  refine callW_of (refcheck_calls w1 size blocks) ?_
  rintro _ w2 ⟨rfl, he2⟩
  refine ⟨_, rfl, ?_⟩
  have hb1 := hb1.ext he2
  have he := he1.trans he2
  cases hg : geoOK size blocks with
  | false => exact splitW_t (by rfl) ⟨rfl, he⟩
  | true =>
    obtain ⟨h0, h1, h2, h3, h4⟩ := geo_room hg
    refine splitW_f (by rfl) ?_
    refine box0 size hb1 (by rfl) ?_
    refine callW_of (refroom_calls w2 size) ?_
    rintro _ w3 ⟨rfl, he3⟩
    refine ⟨_, rfl, ?_⟩
    have hb1 := hb1.ext he3
    refine boxF 1 blocks hb1 (by rfl) (guard_i (by omega) ?_)
    rw [if_pos rfl]
    have hd : Int.tdiv (2 * blocks + roomOf size - 1) (roomOf size) = (2 * blocks + roomOf size - 1) / roomOf size := Int.tdiv_eq_ediv_of_nonneg (by omega)
    have hle := Int.ediv_le_self (a := 2 * blocks + roomOf size - 1) (roomOf size) (by omega)
    have h0' := Int.ediv_nonneg (a := 2 * blocks + roomOf size - 1) (b := roomOf size) (by omega) (by omega)
    rw [wrap_i64 (x := 2 * blocks) (by omega) (by omega), wrap_i64 (x := 2 * blocks + roomOf size) (by omega) (by omega), wrap_i64 (x := 2 * blocks + roomOf size - 1) (by omega) (by omega), hd, wrap_i64 (by omega) (by omega)]
    exact ⟨rfl, he.trans he3⟩
theorem page_calls {w : World} {b : Nat} {s : Sup} {x : SLC} {t : TypeId} {n : Nat} (hb : Blk w b (sV s x) t) (hn : n < 4294967296) (h0 : 0 ≤ s.blocks) (h1 : s.blocks < 9223372036854775808) :
    Calls Try.prog 38 #[.int .u32 (n : Int), .pointer (some ⟨b, 0, none⟩)] w (Ret fun v w' => v = .bool (pageOK s.blocks n) ∧ w' = w) := by
  apply calls38
  unfold S38 pageOK
  refine splitW_i (fun h => ?_) (fun h => ?_)
  · have h := of_decide_eq_true h
    refine boxF2 s.blocks hb (by rfl) ?_
    obtain ⟨k, hk⟩ : ∃ k : Nat, s.blocks = k := ⟨s.blocks.toNat, by omega⟩
    rw [hk, wrap_u64_nat (by omega), wrap_u64_nat (by omega)]
    refine ⟨?_, rfl⟩
    congr 1
    exact decide_eq_decide.2 (by omega)
  · have h := of_decide_eq_false h
    refine ⟨?_, rfl⟩
    congr 1
    exact (decide_eq_false (by omega)).symm
theorem rpage_calls {w : World} {size blocks : Int} {n : Nat} (hn : n < 4294967296) (h0 : 0 ≤ blocks) (h1 : blocks < 9223372036854775808) :
    Calls Try.prog 42 #[.agg #[.int .i64 size, .int .i64 blocks], .int .u32 (n : Int)] w (Ret fun v w' => v = .bool (pageOK blocks n) ∧ Ext w w') := by
  apply calls42
  unfold S42 pageOK
  refine new_i fun r1 w1 hb1 he1 _ _ => ?_
  refine splitW_i (fun h => ?_) (fun h => ?_)
  · have h := of_decide_eq_true h
    refine boxF 1 blocks hb1 (by rfl) ?_
    obtain ⟨k, hk⟩ : ∃ k : Nat, blocks = k := ⟨blocks.toNat, by omega⟩
    rw [hk, wrap_u64_nat (by omega), wrap_u64_nat (by omega)]
    refine ⟨?_, he1⟩
    congr 1
    exact decide_eq_decide.2 (by omega)
  · have h := of_decide_eq_false h
    refine ⟨?_, he1⟩
    congr 1
    exact (decide_eq_false (by omega)).symm
theorem index_calls {w : World} {A : Option Addr} {n c : Nat} {xs : List Nat} {y : Nat} (h : Sli (numE .u32) w A n xs) :
    Calls Try.prog 50 #[.slice A n c, .int .u32 (y : Int)] w (Ret fun v w' => (∃ k : Int, v = .int .i64 k ∧ (0 ≤ k ↔ y ∈ xs)) ∧ w' = w) := by
  apply calls50
  unfold S50
  have hl := h.len
  have hle := h.le
  refine loopW_i (fun z w' => ∃ i : Nat, i ≤ n ∧ z = ((i : Int), ()) ∧ w' = w ∧ y ∉ xs.take i) (fun z => (n - z.1).toNat) ⟨0, by omega, rfl, rfl, by simp⟩ ?_
  rintro _ _ ⟨i, hi, rfl, rfl, hno⟩
  dsimp only
  by_cases hlt : i < n
  · refine splitW_t (decide_eq_true (by omega)) ?_
    refine idx_num h (by omega) (by omega) ?_
    rw [Int.toNat_natCast]
    have e : xs[i]? = some (xs.getD i 0) := by rw [List.getD_eq_getElem?_getD, List.getElem?_eq_getElem (by omega)]; rfl
    refine splitW_i (fun hq => ?_) (fun hq => ?_)
    · have hq := beq_iff_eq.1 hq
      refine ⟨⟨_, rfl, by constructor <;> intro _; · exact List.mem_of_getElem? (i := i) (by rw [e]; congr 1; omega)
                          · omega⟩, rfl⟩
    · have hq := beq_eq_false_iff_ne.1 hq
      refine ⟨⟨i + 1, by omega, by rw [wrap_i64 (by omega) (by omega)]; rfl, rfl, ?_⟩, by rw [wrap_i64 (by omega) (by omega)]; omega⟩
      rw [List.take_add_one, e]
      simp only [Option.toList_some, List.mem_append, List.mem_singleton]
      rintro (hh | hh)
      · exact hno hh
      · exact hq (by rw [hh])
  · refine splitW_f (decide_eq_false (by omega)) ?_
    refine ⟨⟨_, rfl, by constructor; · intro hh; omega
                        · intro hh; rw [List.take_of_length_le (by omega)] at hno; exact absurd hh hno⟩, rfl⟩
theorem contains_calls {w : World} {A : Option Addr} {n c : Nat} {xs : List Nat} {y : Nat} (h : Sli (numE .u32) w A n xs) :
    Calls Try.prog 39 #[.slice A n c, .int .u32 (y : Int)] w (Ret fun v w' => v = .bool (decide (y ∈ xs)) ∧ w' = w) := by
  apply calls39
  unfold S39
  refine callW_of (index_calls (c := c) h) ?_
  rintro _ _ ⟨⟨k, rfl, hk⟩, rfl⟩
  refine ⟨k, rfl, ?_, rfl⟩
  congr 1
  exact decide_eq_decide.2 (by rw [← hk])
/-! ### The checks -/
theorem Sup.Fits.at_ {s : Sup} (h : s.Fits) (i : Nat) : s.pages.getD i 0 < 4294967296 := by
  by_cases hi : i < s.pages.length
  · rw [List.getD_eq_getElem?_getD, List.getElem?_eq_getElem hi]
    exact h.pages _ (List.getElem_mem hi)
  · rw [List.getD_eq_getElem?_getD, List.getElem?_eq_none (by omega)]
    show 0 < 4294967296
    decide
theorem check_calls {w : World} {s : Sup} {x : SLC} (hf : s.Fits) (hp : Pg w x s.pages) :
    Calls Try.prog 19 #[.agg (sV s x).toArray] w (Ret fun v w' => v = .int .i64 (chk s) ∧ Ext w w') := by
  apply calls19
  unfold S19
  have hlen := hp.len
  refine new_i fun r1 w1 hb1 he1 _ _ => ?_
  have hb1 : Blk w1 r1 (sV s x) 28 := hb1
  have hp := hp.ext he1
  refine joinW_s (fun _ w' => s.head ∧ Ext w1 w') ?_ (fun J hJ => ?_)
  · rintro _ w2 ⟨hh, he2⟩
    have hb1 := hb1.ext he2
    have hp := hp.ext he2
    have he2 := he1.trans he2
    obtain ⟨h0, h1, h2, h3, h4⟩ := geo_room hh.1
    have hpl := pagesOf_le (size := s.size) (blocks := s.blocks)
    have hln : (s.pages.length : Int) ≤ 20000 := by have := hh.2.2.2; omega
    refine boxF 4 x hb1 (by rfl) ?_
    refine loopW_i (fun y w' => ∃ i : Nat, i ≤ x.2.1 ∧ y = ((i : Int), ()) ∧ Ext w2 w' ∧ ∀ j, j < i → s.good j) (fun y => (x.2.1 - y.1).toNat) ⟨0, by omega, rfl, Ext.refl w2, fun j hj => by omega⟩ ?_
    rintro _ w3 ⟨i, hi, rfl, he3, hgood⟩
    have hb1 := hb1.ext he3
    have hp := hp.ext he3
    have he3' := he2.trans he3
    dsimp only
    by_cases hlt : i < x.2.1
    · refine splitW_t (decide_eq_true (by omega)) ?_
      refine idx_num hp.sl (by omega) (by omega) ?_
      rw [Int.toNat_natCast]
      refine callVW_fn (by kernel_rfl) ?_
      refine callW_of (page_calls hb1 (hf.at_ i) (by omega) (by omega)) ?_
      rintro _ w4 ⟨rfl, hw⟩
      subst hw
      refine ⟨_, rfl, ?_⟩
      cases hpo : pageOK s.blocks (s.pages.getD i 0) with
      | false => exact splitW_t (by rfl) ⟨by rw [chk_bad (s := s) (j := i) (by omega) (fun h => by rw [h.1] at hpo; cases hpo)], he3'⟩
      | true =>
        refine splitW_f (by rfl) ?_
        refine boxF 3 (s.root : Int) hb1 (by rfl) ?_
        refine splitW_i (fun hq => ?_) (fun hq => ?_)
        · have hq := beq_iff_eq.1 hq
          exact ⟨by rw [chk_bad (s := s) (j := i) (by omega) (fun h => h.2.1 (by omega))], he3'⟩
        have hq := beq_eq_false_iff_ne.1 hq
        refine boxF 4 x hb1 (by rfl) (guard_i ⟨by omega, by have := hp.nc; omega⟩ ?_)
        have hcut := hp.sl.cut0 (k := i) (m := x.2.2) (z := 1) rfl (by omega) (by have := hp.nc; omega)
        refine callW_of (contains_calls (c := x.2.2) hcut) ?_
        rintro _ w4 ⟨rfl, hw⟩
        subst hw
        refine ⟨_, rfl, ?_⟩
        by_cases hm : s.pages.getD i 0 ∈ s.pages.take i
        · exact splitW_t (decide_eq_true hm) ⟨by rw [chk_bad (s := s) (j := i) (by omega) (fun h => h.2.2 hm)], he3'⟩
        · refine splitW_f (decide_eq_false hm) ?_
          refine ⟨⟨i + 1, by omega, by rw [wrap_i64 (by omega) (by omega)]; rfl, he3, fun j hj => ?_⟩, by rw [wrap_i64 (by omega) (by omega)]; omega⟩
          by_cases hji : j = i
          · subst hji; exact ⟨hpo, fun e => hq (by rw [e]), hm⟩
          · exact hgood j (by omega)
    · refine splitW_f (decide_eq_false (by omega)) ?_
      refine draw_i fun w4 he4 _ _ => ?_
      have hb1 := hb1.ext he4
      have he4 := he3'.trans he4
      refine boxF 4 x hb1 (by rfl) (boxF 1 s.size hb1 (by rfl) ?_)
      refine callW_of (room_calls w4 s.size) ?_
      rintro _ w5 ⟨rfl, he5⟩
      refine ⟨_, rfl, ?_⟩
      have hb1 := hb1.ext he5
      refine heldF hb1 (by rfl) ?_
      rw [wrap_i64 (x := 4 * (x.2.1 : Int)) (by omega) (by omega), wrap_i64 (by omega) (by omega), chk_long hh (fun j hj => hgood j (by omega)), hlen]
      refine splitW_i (fun hq => ?_) (fun hq => ?_)
      · rw [if_pos (of_decide_eq_true hq)]; exact ⟨rfl, he4.trans he5⟩
      · rw [if_neg (of_decide_eq_false hq)]; exact ⟨rfl, he4.trans he5⟩
  · have bad : ∀ {w' : World}, ¬ s.head → Ext w w' → (Value.int .i64 2 = .int .i64 (chk s) ∧ Ext w w') := fun h he => ⟨by rw [chk_head h], he⟩
    refine draw_i fun w2 he2 _ _ => ?_
    have hb1 := hb1.ext he2
    refine boxAt (ls := [.int .i64, .int .i64]) (s.size, s.blocks, ()) hb1 (by rfl) ?_
    refine callW_of (devcheck_calls w2 s.size s.blocks) ?_
    rintro _ w3 ⟨rfl, he3⟩
    refine ⟨_, rfl, ?_⟩
    have hb1 := hb1.ext he3
    have he3 := he2.trans he3
    cases hg : geoOK s.size s.blocks with
    | false => exact splitW_t (by rfl) (bad (fun h => by rw [h.1] at hg; cases hg) (he1.trans he3))
    | true =>
      obtain ⟨h0, h1, h2, h3, h4⟩ := geo_room hg
      refine splitW_f (by rfl) ?_
      refine box0 (s.gen : Int) hb1 (by rfl) ?_
      refine splitW_i (fun hq => ?_) (fun hq => ?_)
      · exact bad (fun h => h.2.1 (by have := beq_iff_eq.1 hq; omega)) (he1.trans he3)
      have hgen := beq_eq_false_iff_ne.1 hq
      refine boxF 3 (s.root : Int) hb1 (by rfl) ?_
      have last : ∀ {w' : World}, Blk w' r1 (sV s x) 28 → Ext w1 w' → (s.root = 0 ∨ pageOK s.blocks s.root = true) →
          (ldW .slc ((⟨r1, 0, none⟩ : Addr).add 4) fun (u : SLC) => ldAW [.int .i64, .int .i64] ((⟨r1, 0, none⟩ : Addr).add 1) fun (v : Int × Int × Unit) => callW Try.prog 14 [.agg #[.int .i64 v.1, .int .i64 v.2.1]] (.one (.one (.int .i64))) fun (z : Int) =>
            heldW [[((⟨r1, 0, none⟩ : Addr).add 4, .slice u.1 u.2.1 u.2.2)]] <| splitW (((u.2.1 : Nat) : Int) != z) (fun w' => Value.int .i64 (2 : Int) = .int .i64 (chk s) ∧ Ext w w') (J ())) w' := by
        intro w' hb1 he hr
        refine boxF 4 x hb1 (by rfl) (boxAt (ls := [.int .i64, .int .i64]) (s.size, s.blocks, ()) hb1 (by rfl) ?_)
        refine callW_of (pages_calls w' s.size s.blocks) ?_
        rintro _ w5 ⟨rfl, he5⟩
        refine ⟨_, rfl, ?_⟩
        refine heldF (hb1.ext he5) (by rfl) ?_
        refine splitW_i (fun hq => ?_) (fun hq => ?_)
        · exact bad (fun h => bne_iff_ne.1 hq (by rw [← h.2.2.2, hlen])) ((he1.trans he).trans he5)
        · have hq := bne_eq_false_iff_eq.1 hq
          exact hJ _ _ ⟨⟨hg, by omega, hr, by rw [hlen]; exact hq⟩, he.trans he5⟩
      refine splitW_i (fun hq => ?_) (fun hq => ?_)
      · refine boxF 3 (s.root : Int) hb1 (by rfl) (callVW_fn (by kernel_rfl) ?_)
        refine callW_of (page_calls hb1 hf.root (by omega) (by omega)) ?_
        rintro _ w4 ⟨rfl, hw⟩
        subst hw
        refine ⟨_, rfl, ?_⟩
        cases hpo : pageOK s.blocks s.root with
        | false => exact splitW_t (by rfl) (bad (fun h => by
            rcases h.2.2.1 with h | h
            · exact bne_iff_ne.1 hq (by rw [h]; rfl)
            · rw [h] at hpo; cases hpo) (he1.trans he3))
        | true => exact splitW_f (by rfl) (last hb1 he3 (.inr hpo))
      · have hq := bne_eq_false_iff_eq.1 hq
        exact last hb1 he3 (.inl (by omega))
theorem rcheck_calls {w : World} {s : Sup} {x : SLC} (hf : s.Fits) (hp : Pg w x s.pages) :
    Calls Try.prog 24 #[.agg (sV s x).toArray] w (Ret fun v w' => v = .int .i64 (chk s) ∧ Ext w w') := by
  apply calls24
  unfold S24
  have hlen := hp.len
  refine new_i fun r1 w1 hb1 he1 _ _ => ?_
  have hb1 : Blk w1 r1 (sV s x) 28 := hb1
  have hp := hp.ext he1
  refine joinW_s (fun _ w' => s.head ∧ Ext w1 w') ?_ (fun J hJ => ?_)
  · rintro _ w2 ⟨hh, he2⟩
    have hb1 := hb1.ext he2
    have hp := hp.ext he2
    have he2 := he1.trans he2
    obtain ⟨h0, h1, h2, h3, h4⟩ := geo_room hh.1
    have hpl := pagesOf_le (size := s.size) (blocks := s.blocks)
    have hln : (s.pages.length : Int) ≤ 20000 := by have := hh.2.2.2; omega
    refine loopW_i (fun y w' => ∃ i : Nat, i ≤ x.2.1 ∧ y = ((i : Int), ()) ∧ Ext w2 w' ∧ ∀ j, j < i → s.good j) (fun y => (x.2.1 - y.1).toNat) ⟨0, by omega, rfl, Ext.refl w2, fun j hj => by omega⟩ ?_
    rintro _ w3 ⟨i, hi, rfl, he3, hgood⟩
    have hb1 := hb1.ext he3
    have hp := hp.ext he3
    have he3' := he2.trans he3
    dsimp only
    refine boxF 4 x hb1 (by rfl) ?_
    by_cases hlt : i < x.2.1
    · refine splitW_t (decide_eq_true (by omega)) ?_
      refine draw_i fun w4 he4 _ _ => ?_
      have hb1 := hb1.ext he4
      have hp := hp.ext he4
      have he4' := he3'.trans he4
      have he4 := he3.trans he4
      refine boxAt (ls := [.int .i64, .int .i64]) (s.size, s.blocks, ()) hb1 (by rfl) (boxF 4 x hb1 (by rfl) ?_)
      refine idx_num hp.sl (by omega) (by omega) ?_
      rw [Int.toNat_natCast]
      refine callW_of (rpage_calls (size := s.size) (blocks := s.blocks) (hf.at_ i) (by omega) (by omega)) ?_
      rintro _ w5 ⟨rfl, he5⟩
      refine ⟨_, rfl, ?_⟩
      have hb1 := hb1.ext he5
      have hp := hp.ext he5
      have he5' := he4'.trans he5
      have he5 := he4.trans he5
      cases hpo : pageOK s.blocks (s.pages.getD i 0) with
      | false => exact splitW_t (by rfl) ⟨by rw [chk_bad (s := s) (j := i) (by omega) (fun h => by rw [h.1] at hpo; cases hpo)], he5'⟩
      | true =>
        refine splitW_f (by rfl) (boxF 4 x hb1 (by rfl) ?_)
        refine idx_num hp.sl (by omega) (by omega) ?_
        rw [Int.toNat_natCast]
        refine boxF 3 (s.root : Int) hb1 (by rfl) ?_
        refine splitW_i (fun hq => ?_) (fun hq => ?_)
        · have hq := beq_iff_eq.1 hq
          exact ⟨by rw [chk_bad (s := s) (j := i) (by omega) (fun h => h.2.1 (by omega))], he5'⟩
        have hq := beq_eq_false_iff_ne.1 hq
        refine loopW_i (fun y w' => ∃ k : Nat, k ≤ i ∧ y = ((k : Int), ()) ∧ Ext w5 w' ∧ s.pages.getD i 0 ∉ s.pages.take k) (fun y => (i - y.1).toNat) ⟨0, by omega, rfl, Ext.refl w5, by simp⟩ ?_
        rintro _ w6 ⟨k, hk, rfl, he6, hno⟩
        have hb1 := hb1.ext he6
        have hp := hp.ext he6
        have he6' := he5'.trans he6
        dsimp only
        by_cases hki : k < i
        · refine splitW_t (decide_eq_true (by omega)) ?_
          refine draw_i fun w7 he7 _ _ => ?_
          have hb1 := hb1.ext he7
          have hp := hp.ext he7
          have he7' := he6'.trans he7
          have he7 := he6.trans he7
          refine boxF 4 x hb1 (by rfl) (idx_num hp.sl (by omega) (by omega) ?_)
          rw [Int.toNat_natCast]
          refine boxF 4 x hb1 (by rfl) (idx_num hp.sl (by omega) (by omega) ?_)
          rw [Int.toNat_natCast]
          have e : s.pages[k]? = some (s.pages.getD k 0) := by rw [List.getD_eq_getElem?_getD, List.getElem?_eq_getElem (by omega)]; rfl
          refine splitW_i (fun hz => ?_) (fun hz => ?_)
          · have hz := beq_iff_eq.1 hz
            have hm : s.pages.getD i 0 ∈ s.pages.take i := by
              refine List.mem_of_getElem? (i := k) ?_
              rw [List.getElem?_take_of_lt hki, e]
              congr 1
              omega
            exact ⟨by rw [chk_bad (s := s) (j := i) (by omega) (fun h => h.2.2 hm)], he7'⟩
          · have hz := beq_eq_false_iff_ne.1 hz
            refine ⟨⟨k + 1, by omega, by rw [wrap_i64 (by omega) (by omega)]; rfl, he7, ?_⟩, by rw [wrap_i64 (by omega) (by omega)]; omega⟩
            rw [List.take_add_one, e]
            simp only [Option.toList_some, List.mem_append, List.mem_singleton]
            rintro (hh | hh)
            · exact hno hh
            · exact hz (by rw [hh])
        · obtain rfl : k = i := by omega
          refine splitW_f (decide_eq_false (by omega)) ?_
          refine ⟨⟨k + 1, by omega, by rw [wrap_i64 (by omega) (by omega)]; rfl, he5.trans he6, fun j hj => ?_⟩, by rw [wrap_i64 (by omega) (by omega)]; omega⟩
          by_cases hji : j = k
          · subst hji; exact ⟨hpo, fun e => hq (by rw [e]), hno⟩
          · exact hgood j (by omega)
    · refine splitW_f (decide_eq_false (by omega)) ?_
      refine draw_i fun w4 he4 _ _ => ?_
      have hb1 := hb1.ext he4
      have he4 := he3'.trans he4
      refine boxF 4 x hb1 (by rfl) (boxF 1 s.size hb1 (by rfl) ?_)
      refine callW_of (refroom_calls w4 s.size) ?_
      rintro _ w5 ⟨rfl, he5⟩
      refine ⟨_, rfl, ?_⟩
      have hb1 := hb1.ext he5
      refine heldF hb1 (by rfl) ?_
      rw [wrap_i64 (x := 4 * (x.2.1 : Int)) (by omega) (by omega), wrap_i64 (by omega) (by omega), chk_long hh (fun j hj => hgood j (by omega)), hlen]
      refine splitW_i (fun hq => ?_) (fun hq => ?_)
      · rw [if_pos (of_decide_eq_true hq)]; exact ⟨rfl, he4.trans he5⟩
      · rw [if_neg (of_decide_eq_false hq)]; exact ⟨rfl, he4.trans he5⟩
  · have bad : ∀ {w' : World}, ¬ s.head → Ext w w' → (Value.int .i64 2 = .int .i64 (chk s) ∧ Ext w w') := fun h he => ⟨by rw [chk_head h], he⟩
    refine draw_i fun w2 he2 _ _ => ?_
    have hb1 := hb1.ext he2
    refine boxAt (ls := [.int .i64, .int .i64]) (s.size, s.blocks, ()) hb1 (by rfl) ?_
    refine callW_of (refcheck_calls w2 s.size s.blocks) ?_
    rintro _ w3 ⟨rfl, he3⟩
    refine ⟨_, rfl, ?_⟩
    have hb1 := hb1.ext he3
    have he3 := he2.trans he3
    cases hg : geoOK s.size s.blocks with
    | false => exact splitW_t (by rfl) (bad (fun h => by rw [h.1] at hg; cases hg) (he1.trans he3))
    | true =>
      obtain ⟨h0, h1, h2, h3, h4⟩ := geo_room hg
      refine splitW_f (by rfl) ?_
      refine box0 (s.gen : Int) hb1 (by rfl) ?_
      refine splitW_i (fun hq => ?_) (fun hq => ?_)
      · exact bad (fun h => h.2.1 (by have := beq_iff_eq.1 hq; omega)) (he1.trans he3)
      have hgen := beq_eq_false_iff_ne.1 hq
      refine boxF 3 (s.root : Int) hb1 (by rfl) ?_
      have last : ∀ {w' : World}, Blk w' r1 (sV s x) 28 → Ext w1 w' → (s.root = 0 ∨ pageOK s.blocks s.root = true) →
          (ldW .slc ((⟨r1, 0, none⟩ : Addr).add 4) fun (u : SLC) => ldAW [.int .i64, .int .i64] ((⟨r1, 0, none⟩ : Addr).add 1) fun (v : Int × Int × Unit) => callW Try.prog 25 [.agg #[.int .i64 v.1, .int .i64 v.2.1]] (.one (.one (.int .i64))) fun (z : Int) =>
            heldW [[((⟨r1, 0, none⟩ : Addr).add 4, .slice u.1 u.2.1 u.2.2)]] <| splitW (((u.2.1 : Nat) : Int) != z) (fun w' => Value.int .i64 (2 : Int) = .int .i64 (chk s) ∧ Ext w w') (J ())) w' := by
        intro w' hb1 he hr
        refine boxF 4 x hb1 (by rfl) (boxAt (ls := [.int .i64, .int .i64]) (s.size, s.blocks, ()) hb1 (by rfl) ?_)
        refine callW_of (rpages_calls w' s.size s.blocks) ?_
        rintro _ w5 ⟨rfl, he5⟩
        refine ⟨_, rfl, ?_⟩
        refine heldF (hb1.ext he5) (by rfl) ?_
        refine splitW_i (fun hq => ?_) (fun hq => ?_)
        · exact bad (fun h => bne_iff_ne.1 hq (by rw [← h.2.2.2, hlen])) ((he1.trans he).trans he5)
        · have hq := bne_eq_false_iff_eq.1 hq
          exact hJ _ _ ⟨⟨hg, by omega, hr, by rw [hlen]; exact hq⟩, he.trans he5⟩
      refine splitW_i (fun hq => ?_) (fun hq => ?_)
      · refine boxAt (ls := [.int .i64, .int .i64]) (s.size, s.blocks, ()) hb1 (by rfl) (boxF 3 (s.root : Int) hb1 (by rfl) ?_)
        refine callW_of (rpage_calls (size := s.size) (blocks := s.blocks) hf.root (by omega) (by omega)) ?_
        rintro _ w4 ⟨rfl, he4⟩
        refine ⟨_, rfl, ?_⟩
        have hb1 := hb1.ext he4
        have he4 := he3.trans he4
        cases hpo : pageOK s.blocks s.root with
        | false => exact splitW_t (by rfl) (bad (fun h => by
            rcases h.2.2.1 with h | h
            · exact bne_iff_ne.1 hq (by rw [h]; rfl)
            · rw [h] at hpo; cases hpo) (he1.trans he4))
        | true => exact splitW_f (by rfl) (last hb1 he4 (.inr hpo))
      · have hq := bne_eq_false_iff_eq.1 hq
        exact last hb1 he3 (.inl (by omega))
theorem wordsB_take {ps : List Nat} {i : Nat} (h : i < ps.length) : wordsB (ps.take (i + 1)) = wordsB (ps.take i) ++ le 4 (ps.getD i 0) := by
  have e : ps[i]? = some (ps.getD i 0) := by rw [List.getD_eq_getElem?_getD, List.getElem?_eq_getElem h]; rfl
  rw [List.take_add_one, e]
  simp [wordsB]
theorem sput_calls {w : World} {s : Sup} {x : SLC} (hf : s.Fits) (hp : Pg w x s.pages) :
    Calls Try.prog 9 #[.agg (sV s x).toArray] w (Ret fun v w' => v = .tuple #[.string ⟨(putS s).1.toArray⟩, .int .i64 (putS s).2] ∧ Ext w w') := by
  apply calls9
  unfold S9
  have hlen := hp.len
  refine new_i fun r1 w1 hb1 he1 _ _ => ?_
  have hb1 : Blk w1 r1 (sV s x) 28 := hb1
  have hp := hp.ext he1
  refine boxA (ls := sLs) (sT s x) hb1 rfl ?_
  refine callW_of (check_calls hf hp) ?_
  rintro _ w2 ⟨rfl, he2⟩
  refine ⟨_, rfl, ?_⟩
  have hb1 := hb1.ext he2
  have hp := hp.ext he2
  have he2 := he1.trans he2
  refine splitW_i (fun hq => ?_) (fun hq => ?_)
  · rw [putS_bad (bne_iff_ne.1 hq)]; exact ⟨rfl, he2⟩
  have hc := bne_eq_false_iff_eq.1 hq
  obtain ⟨hh, hgd, h14⟩ := chk_ok hc
  obtain ⟨g0, g1, g2, g3, g4⟩ := geo_room hh.1
  have hroot := hf.root
  have hn : s.pages.length ≤ 4080 := by omega
  obtain ⟨sz, hsz⟩ : ∃ k : Nat, s.size = k := ⟨s.size.toNat, by omega⟩
  obtain ⟨nb, hnb⟩ : ∃ k : Nat, s.blocks = k := ⟨s.blocks.toNat, by omega⟩
  refine boxF 1 s.size hb1 (by rfl) (boxF2 s.blocks hb1 (by rfl) (boxF 3 (s.root : Int) hb1 (by rfl) ?_))
  rw [hsz, hnb, wrap_u64_nat (by omega), wrap_u64_nat (by omega), wrap_u64_nat (by omega)]
  refine new_i fun r7 w3 hb7 he3 _ _ => ?_
  have hb7 : Blk w3 r7 ((numE .u64).flat [sz, nb, s.root]) 22 := hb7
  have hs7 : Sli (numE .u64) w3 (some ⟨r7, 0, none⟩) 3 [sz, nb, s.root] := Sli.of_blk hb7 rfl (by omega)
  have hb1 := hb1.ext he3
  have hp := hp.ext he3
  have he3 := he2.trans he3
  have hb3 := hb1
  have hp3 := hp
  have grow : ∀ {w' w'' : World} {A A' : Option Addr} {n c : Nat} {bs : List UInt8}, Ext w3 w' → Own 5 w' w3.heap.size A n c (bV bs) → Grew w' w'' (orow A) (orow A') → Ext w3 w'' := fun he ho hg => he.grown hg.grown (fun j hj => ho.row' j hj)
  refine loopW_i (fun y w' => ∃ i : Nat, i ≤ 3 ∧ y.2.1 = (i : Int) ∧ Own 5 w' w3.heap.size y.1.1 y.1.2.1 y.1.2.2 (bV (wordsB ([sz, nb, s.root].take i))) ∧ Ext w3 w') (fun y => (3 - y.2.1).toNat) ⟨0, by omega, rfl, Own.nil _ _ _, Ext.refl _⟩ ?_
  rintro ⟨⟨A, n, c⟩, _, _⟩ w4 ⟨i, hi, hiy, ho, he4⟩
  dsimp only at hiy ho ⊢
  subst hiy
  have hs7 := hs7.ext he4
  have lo := ho.sl.blen
  rw [wordsB_length, List.length_take] at lo
  simp only [List.length_cons, List.length_nil] at lo
  by_cases hlt : i < 3
  · refine splitW_t (decide_eq_true (by omega)) ?_
    refine idx_num hs7 (by omega) (by omega) ?_
    rw [Int.toNat_natCast]
    have hv : [sz, nb, s.root].getD i 0 < 18446744073709551616 := by
      match i, hlt with
      | 0, _ => show sz < _; omega
      | 1, _ => show nb < _; omega
      | 2, _ => show s.root < _; omega
    refine callW_of (octput_calls (k := 4) ho he4.size (by omega) hv (by omega) (by omega)) ?_
    rintro _ w5 ⟨⟨A5, n5, c5⟩, rfl, ho5, hg5⟩
    refine ⟨(A5, n5, c5), rfl, ?_⟩
    refine ⟨⟨i + 1, by omega, by rw [wrap_i64 (by omega) (by omega)]; rfl, ?_, grow he4 ho hg5⟩, by rw [wrap_i64 (by omega) (by omega)]; omega⟩
    have e : [sz, nb, s.root].take (i + 1) = [sz, nb, s.root].take i ++ [[sz, nb, s.root].getD i 0] := by
      match i, hlt with
      | 0, _ => rfl
      | 1, _ => rfl
      | 2, _ => rfl
    rw [e]
    have e2 : wordsB ([sz, nb, s.root].take i ++ [[sz, nb, s.root].getD i 0]) = wordsB ([sz, nb, s.root].take i) ++ le 4 ([sz, nb, s.root].getD i 0) := by simp [wordsB]
    rw [e2]
    exact ho5
  · obtain rfl : i = 3 := by omega
    refine splitW_f (decide_eq_false (by omega)) ?_
    have hb1 := hb1.ext he4
    have hp := hp.ext he4
    refine boxF 4 x hb1 (by rfl) ?_
    rw [wrap_u64_nat (by omega)]
    refine callW_of (octput_calls (k := 2) ho he4.size (by omega) (by omega) (by omega) (by omega)) ?_
    rintro _ w5 ⟨⟨A5, n5, c5⟩, rfl, ho5, hg5⟩
    refine ⟨(A5, n5, c5), rfl, ?_⟩
    have he5 := grow he4 ho hg5
    dsimp only at ho5 ⊢
    have eh : wordsB ([sz, nb, s.root].take 3) ++ le 2 x.2.1 = headS s := by
      unfold headS
      rw [hsz, hnb, hlen, Int.toNat_natCast, Int.toNat_natCast]
      simp [wordsB]
    rw [eh] at ho5
    have hb5 := hb3.ext he5
    refine boxF 4 x hb5 (by rfl) ?_
    refine loopW_i (fun y w' => ∃ i : Nat, i ≤ x.2.1 ∧ y.2.1 = (i : Int) ∧ Own 5 w' w3.heap.size y.1.1 y.1.2.1 y.1.2.2 (bV (headS s ++ wordsB (s.pages.take i))) ∧ Ext w3 w') (fun y => (x.2.1 - y.2.1).toNat) ⟨0, by omega, rfl, by simpa [wordsB] using ho5, he5⟩ ?_
    rintro ⟨⟨A6, n6, c6⟩, _, _⟩ w6 ⟨i, hi, hiy, ho6, he6⟩
    dsimp only at hiy ho6 ⊢
    subst hiy
    have l6 := ho6.sl.blen
    rw [List.length_append, headS_length, wordsB_length, List.length_take] at l6
    have hp6 := hp3.ext he6
    by_cases hlt : i < x.2.1
    · refine splitW_t (decide_eq_true (by omega)) ?_
      refine idx_num hp6.sl (by omega) (by omega) ?_
      rw [Int.toNat_natCast]
      have hv := hf.at_ i
      rw [wrap_u64_nat (by omega)]
      refine callW_of (octput_calls (k := 4) ho6 he6.size (by omega) (by omega) (by omega) (by omega)) ?_
      rintro _ w7 ⟨⟨A7, n7, c7⟩, rfl, ho7, hg7⟩
      refine ⟨(A7, n7, c7), rfl, ?_⟩
      refine ⟨⟨i + 1, by omega, by rw [wrap_i64 (by omega) (by omega)]; rfl, ?_, grow he6 ho6 hg7⟩, by rw [wrap_i64 (by omega) (by omega)]; omega⟩
      rw [wordsB_take (by omega), ← List.append_assoc]
      exact ho7
    · obtain rfl : i = x.2.1 := by omega
      refine splitW_f (decide_eq_false (by omega)) ?_
      rw [List.take_of_length_le (by omega)] at ho6
      have hb6 := hb3.ext he6
      refine boxF 1 s.size hb6 (by rfl) (box0 (s.gen : Int) hb6 (by rfl) ?_)
      refine conv_str (e := 5) (by kernel_rfl) (by kernel_rfl) (by kernel_rfl) ho6.sl ?_
      refine callW_of (fput_calls w6 s.size (f := fraS s) hf.gen) ?_
      rintro _ w7 ⟨rfl, he7⟩
      refine ⟨(⟨(putR s.size (fraS s)).1.toArray⟩, (putR s.size (fraS s)).2, ()), rfl, ?_⟩
      unfold putS
      rw [if_pos hc]
      exact ⟨rfl, he3.trans (he6.trans he7)⟩
theorem rsput_calls {w : World} {s : Sup} {x : SLC} (hf : s.Fits) (hp : Pg w x s.pages) :
    Calls Try.prog 21 #[.agg (sV s x).toArray] w (Ret fun v w' => v = .tuple #[.string ⟨(putS s).1.toArray⟩, .int .i64 (putS s).2] ∧ Ext w w') := by
  apply calls21
  unfold S21
  have hlen := hp.len
  refine new_i fun r1 w1 hb1 he1 _ _ => ?_
  have hb1 : Blk w1 r1 (sV s x) 28 := hb1
  have hp := hp.ext he1
  refine boxA (ls := sLs) (sT s x) hb1 rfl ?_
  refine callW_of (rcheck_calls hf hp) ?_
  rintro _ w2 ⟨rfl, he2⟩
  refine ⟨_, rfl, ?_⟩
  have hb1 := hb1.ext he2
  have hp := hp.ext he2
  have he2 := he1.trans he2
  refine splitW_i (fun hq => ?_) (fun hq => ?_)
  · rw [putS_bad (bne_iff_ne.1 hq)]; exact ⟨rfl, he2⟩
  have hc := bne_eq_false_iff_eq.1 hq
  obtain ⟨hh, hgd, h14⟩ := chk_ok hc
  obtain ⟨g0, g1, g2, g3, g4⟩ := geo_room hh.1
  have hroot := hf.root
  have hn : s.pages.length ≤ 4080 := by omega
  obtain ⟨sz, hsz⟩ : ∃ k : Nat, s.size = k := ⟨s.size.toNat, by omega⟩
  obtain ⟨nb, hnb⟩ : ∃ k : Nat, s.blocks = k := ⟨s.blocks.toNat, by omega⟩
  have grow : ∀ {w' w'' : World} {A A' : Option Addr} {n c : Nat} {bs : List UInt8}, Ext w2 w' → Own 5 w' w2.heap.size A n c (bV bs) → Grew w' w'' (orow A) (orow A') → Ext w2 w'' := fun he ho hg => he.grown hg.grown (fun j hj => ho.row' j hj)
  have eh : [] ++ le 4 sz ++ le 4 nb ++ le 4 s.root ++ le 2 x.2.1 = headS s := by
    unfold headS
    rw [hsz, hnb, hlen, Int.toNat_natCast, Int.toNat_natCast, List.nil_append]
  refine boxF 1 s.size hb1 (by rfl) ?_
  rw [hsz, wrap_u64_nat (by omega)]
  refine callW_of (put_calls (k := 4) (bs := []) (Own.nil _ w2 w2.heap.size) (Nat.le_refl _) (by omega) (by omega) (by omega) (by omega)) ?_
  rintro _ w3 ⟨⟨A3, n3, c3⟩, rfl, ho3, hg3⟩
  refine ⟨(A3, n3, c3), rfl, ?_⟩
  have he3 := grow (Ext.refl w2) (bs := []) (Own.nil _ w2 w2.heap.size) hg3
  dsimp only at ho3 ⊢
  have l3 := ho3.sl.blen
  simp only [List.nil_append, List.length_append, le_length] at l3
  refine boxF2 s.blocks (hb1.ext he3) (by rfl) ?_
  rw [hnb, wrap_u64_nat (by omega)]
  refine callW_of (put_calls (k := 4) ho3 he3.size (by omega) (by omega) (by omega) (by omega)) ?_
  rintro _ w4 ⟨⟨A4, n4, c4⟩, rfl, ho4, hg4⟩
  refine ⟨(A4, n4, c4), rfl, ?_⟩
  have he4 := grow he3 ho3 hg4
  dsimp only at ho4 ⊢
  have l4 := ho4.sl.blen
  simp only [List.nil_append, List.length_append, le_length] at l4
  refine boxF 3 (s.root : Int) (hb1.ext he4) (by rfl) ?_
  rw [wrap_u64_nat (by omega)]
  refine callW_of (put_calls (k := 4) ho4 he4.size (by omega) (by omega) (by omega) (by omega)) ?_
  rintro _ w5 ⟨⟨A5, n5, c5⟩, rfl, ho5, hg5⟩
  refine ⟨(A5, n5, c5), rfl, ?_⟩
  have he5 := grow he4 ho4 hg5
  dsimp only at ho5 ⊢
  have l5 := ho5.sl.blen
  simp only [List.nil_append, List.length_append, le_length] at l5
  refine boxF 4 x (hb1.ext he5) (by rfl) ?_
  rw [wrap_u64_nat (by omega)]
  refine callW_of (put_calls (k := 2) ho5 he5.size (by omega) (by omega) (by omega) (by omega)) ?_
  rintro _ w6 ⟨⟨A6, n6, c6⟩, rfl, ho6, hg6⟩
  refine ⟨(A6, n6, c6), rfl, ?_⟩
  have he6 := grow he5 ho5 hg6
  dsimp only at ho6 ⊢
  rw [eh] at ho6
  refine loopW_i (fun y w' => ∃ i : Nat, i ≤ x.2.1 ∧ y.2.1 = (i : Int) ∧ Own 5 w' w2.heap.size y.1.1 y.1.2.1 y.1.2.2 (bV (headS s ++ wordsB (s.pages.take i))) ∧ Ext w2 w') (fun y => (x.2.1 - y.2.1).toNat) ⟨0, by omega, rfl, by simpa [wordsB] using ho6, he6⟩ ?_
  rintro ⟨⟨A7, n7, c7⟩, _, _⟩ w7 ⟨i, hi, hiy, ho7, he7⟩
  dsimp only at hiy ho7 ⊢
  subst hiy
  have l7 := ho7.sl.blen
  rw [List.length_append, headS_length, wordsB_length, List.length_take] at l7
  have hp7 := hp.ext he7
  have hb7 := hb1.ext he7
  refine boxF 4 x hb7 (by rfl) ?_
  by_cases hlt : i < x.2.1
  · refine splitW_t (decide_eq_true (by omega)) ?_
    refine boxF 4 x hb7 (by rfl) ?_
    refine idx_num hp7.sl (by omega) (by omega) ?_
    rw [Int.toNat_natCast]
    have hv := hf.at_ i
    rw [wrap_u64_nat (by omega)]
    refine callW_of (put_calls (k := 4) ho7 he7.size (by omega) (by omega) (by omega) (by omega)) ?_
    rintro _ w8 ⟨⟨A8, n8, c8⟩, rfl, ho8, hg8⟩
    refine ⟨(A8, n8, c8), rfl, ?_⟩
    refine ⟨⟨i + 1, by omega, by rw [wrap_i64 (by omega) (by omega)]; rfl, ?_, grow he7 ho7 hg8⟩, by rw [wrap_i64 (by omega) (by omega)]; omega⟩
    rw [wordsB_take (by omega), ← List.append_assoc]
    exact ho8
  · obtain rfl : i = x.2.1 := by omega
    refine splitW_f (decide_eq_false (by omega)) ?_
    rw [List.take_of_length_le (by omega)] at ho7
    refine boxF 1 s.size hb7 (by rfl) (box0 (s.gen : Int) hb7 (by rfl) ?_)
    refine conv_str (e := 5) (by kernel_rfl) (by kernel_rfl) (by kernel_rfl) ho7.sl ?_
    refine callW_of (rfput_calls w7 s.size (f := fraS s) hf.gen) ?_
    rintro _ w8 ⟨rfl, he8⟩
    refine ⟨(⟨(putR s.size (fraS s)).1.toArray⟩, (putR s.size (fraS s)).2, ()), rfl, ?_⟩
    unfold putS
    rw [if_pos hc]
    exact ⟨rfl, he2.trans (he7.trans he8)⟩
end Go.Proofs.Ytiiemgndnpflbaa.V
