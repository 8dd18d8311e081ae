/- Texts of mine, merged (wip/tool/mergep.py): M5. -/
import Derived.Test.YtjdmggaeagnolaaGreatDoorM4
/- Texts of mine, merged (wip/tool/mergep.py): M5. -/
/- Texts of mine, merged (wip/tool/mergep.py): KSuper1, KSuper2, KSuper3, KSuper4, KSpa, KSpa2, KSpa3, KSpa4, KSpa5, KSpa6, Graph, KSpa7, KCounts4, KSpa8, KSpa9, HR3, KWalk, KWalk2, KWalk3, Good. -/
/- Contracts of the package super, and of the document's answer (11): pages, checks, blocks. -/
set_option linter.unusedVariables false
set_option linter.unusedSimpArgs false
namespace Go.Proofs.YtjdmggaeagnolaaGreatDoor.V
open Go Go.Proofs Go.RowKit Crc
theorem boxAt {ls : List Lf} {w : World} {b o : Nat} {cs rest : List Value} {t : TypeId} {K : LT ls → WP} (x : LT ls) (h : Blk w b cs t) (hx : cs.drop o = LT.vals ls x ++ rest) (hK : K x w) : ldAW ls ((⟨b, 0, none⟩ : Addr).add o) K w := by
  refine ldA_i (x := x) ?_ hK
  refine cellsAt_of (a := ⟨b, 0, none⟩) rfl (vs := LT.vals ls x) (o := o) ?_ _ 0 rfl
  intro j v hj
  rw [add_mk, h.cell, Nat.zero_add, ← List.getElem?_drop, hx, List.getElem?_append_left]
  · exact hj
  · exact (List.getElem?_eq_some_iff.1 hj).1
theorem boxF2 {l : Lf} {w : World} {b : Nat} {cs : List Value} {t : TypeId} {K : l.T → WP} (x : l.T) (h : Blk w b cs t) (hx : cs[2]? = some (l.val x)) (hK : K x w) : ldW l (((⟨b, 0, none⟩ : Addr).add 1).add 1) K w := by
  rw [show (((⟨b, 0, none⟩ : Addr).add 1).add 1) = (⟨b, 0, none⟩ : Addr).add 2 by simp only [add_mk]]
  exact boxF 2 x h hx hK
theorem held1 {w : World} {a : Addr} {v : Value} {K : WP} (h : w.cell? a = some v) (hK : K w) : heldW [[(a, v)]] K w := by
  refine ⟨fun l hl p hp => ?_, hK⟩
  simp only [List.mem_singleton] at hl
  subst hl
  simp only [List.mem_singleton] at hp
  subst hp
  exact h
theorem heldF {w : World} {b o : Nat} {cs : List Value} {t : TypeId} {v : Value} {K : WP} (h : Blk w b cs t) (hv : cs[o]? = some v) (hK : K w) : heldW [[((⟨b, 0, none⟩ : Addr).add o, v)]] K w :=
  held1 (by rw [add_mk, h.cell, Nat.zero_add]; exact hv) hK
abbrev SLC := Option Addr × Nat × Nat
abbrev sLs : List Lf := [.int .u64, .int .i64, .int .i64, .int .u32, .slc]
def sT (s : Sup) (x : SLC) : Int × Int × Int × Int × SLC × Unit := ((s.gen : Int), s.size, s.blocks, (s.root : Int), x, ())
def sV (s : Sup) (x : SLC) : List Value := [.int .u64 (s.gen : Int), .int .i64 s.size, .int .i64 s.blocks, .int .u32 (s.root : Int), .slice x.1 x.2.1 x.2.2]
theorem sV_one (s : Sup) (x : SLC) : ∀ v ∈ sV s x, v.oneCell' = true := by
  intro v hv
  simp only [sV, List.mem_cons, List.not_mem_nil, or_false] at hv
  rcases hv with rfl | rfl | rfl | rfl | rfl <;> rfl
structure Pg (w : World) (x : SLC) (ps : List Nat) : Prop where
  sl : Sli (numE .u32) w x.1 x.2.1 ps
  nc : x.2.1 ≤ x.2.2
theorem Pg.ext {w w' : World} {x : SLC} {ps : List Nat} (h : Pg w x ps) (he : Ext w w') : Pg w' x ps := ⟨h.sl.ext he, h.nc⟩
theorem Pg.nil (w : World) : Pg w (none, 0, 0) [] := ⟨Sli.nil w none, Nat.le_refl _⟩
theorem Pg.len {w : World} {x : SLC} {ps : List Nat} (h : Pg w x ps) : ps.length = x.2.1 := h.sl.len
theorem superpages_calls (w : World) (size blocks : Int) : Calls Tryz.prog 71 #[.agg #[.int .i64 size, .int .i64 blocks]] w (Ret fun v w' => v = .int .i64 (pagesOf size blocks) ∧ Ext w w') := by
  apply calls71
  unfold S71 pagesOf
  refine new_i fun r1 w1 hb1 he1 _ _ => ?_
  refine boxA (ls := [.int .i64, .int .i64]) (size, blocks, ()) hb1 rfl ?_
  refine callW_of (devcheck_calls w1 size blocks) ?_
  rintro _ w2 ⟨rfl, he2⟩
  refine ⟨_, rfl, ?_⟩
  have hb1 := hb1.ext he2
  have he := he1.trans he2
  cases hg : geoOK size blocks with
  | false => exact splitW_t (by rfl) ⟨rfl, he⟩
  | true =>
    obtain ⟨h0, h1, h2, h3, h4⟩ := geo_room hg
    refine splitW_f (by rfl) ?_
    refine box0 size hb1 (by rfl) ?_
    refine callW_of (room_calls w2 size) ?_
    rintro _ w3 ⟨rfl, he3⟩
    refine ⟨_, rfl, ?_⟩
    have hb1 := hb1.ext he3
    refine boxF 1 blocks hb1 (by rfl) (guard_i (by omega) ?_)
    rw [if_pos rfl]
    have hd : Int.tdiv (2 * blocks + roomOf size - 1) (roomOf size) = (2 * blocks + roomOf size - 1) / roomOf size := Int.tdiv_eq_ediv_of_nonneg (by omega)
    have hle := Int.ediv_le_self (a := 2 * blocks + roomOf size - 1) (roomOf size) (by omega)
    have h0' := Int.ediv_nonneg (a := 2 * blocks + roomOf size - 1) (b := roomOf size) (by omega) (by omega)
    rw [wrap_i64 (x := 2 * blocks) (by omega) (by omega), wrap_i64 (x := 2 * blocks + roomOf size) (by omega) (by omega), wrap_i64 (x := 2 * blocks + roomOf size - 1) (by omega) (by omega), hd, wrap_i64 (by omega) (by omega)]
    exact ⟨rfl, he.trans he3⟩
theorem rpages_calls (w : World) (size blocks : Int) : Calls Tryz.prog 130 #[.agg #[.int .i64 size, .int .i64 blocks]] w (Ret fun v w' => v = .int .i64 (pagesOf size blocks) ∧ Ext w w') := by
  apply calls130
  unfold S130 pagesOf
  refine new_i fun r1 w1 hb1 he1 _ _ => ?_
  refine boxA (ls := [.int .i64, .int .i64]) (size, blocks, ()) hb1 rfl ?_
  refine callW_of (refcheck_calls w1 size blocks) ?_
  rintro _ w2 ⟨rfl, he2⟩
  refine ⟨_, rfl, ?_⟩
  have hb1 := hb1.ext he2
  have he := he1.trans he2
  cases hg : geoOK size blocks with
  | false => exact splitW_t (by rfl) ⟨rfl, he⟩
  | true =>
    obtain ⟨h0, h1, h2, h3, h4⟩ := geo_room hg
    refine splitW_f (by rfl) ?_
    refine box0 size hb1 (by rfl) ?_
    refine callW_of (refroom_calls w2 size) ?_
    rintro _ w3 ⟨rfl, he3⟩
    refine ⟨_, rfl, ?_⟩
    have hb1 := hb1.ext he3
    refine boxF 1 blocks hb1 (by rfl) (guard_i (by omega) ?_)
    rw [if_pos rfl]
    have hd : Int.tdiv (2 * blocks + roomOf size - 1) (roomOf size) = (2 * blocks + roomOf size - 1) / roomOf size := Int.tdiv_eq_ediv_of_nonneg (by omega)
    have hle := Int.ediv_le_self (a := 2 * blocks + roomOf size - 1) (roomOf size) (by omega)
    have h0' := Int.ediv_nonneg (a := 2 * blocks + roomOf size - 1) (b := roomOf size) (by omega) (by omega)
    rw [wrap_i64 (x := 2 * blocks) (by omega) (by omega), wrap_i64 (x := 2 * blocks + roomOf size) (by omega) (by omega), wrap_i64 (x := 2 * blocks + roomOf size - 1) (by omega) (by omega), hd, wrap_i64 (by omega) (by omega)]
    exact ⟨rfl, he.trans he3⟩
theorem page_calls {w : World} {b : Nat} {s : Sup} {x : SLC} {t : TypeId} {n : Nat} (hb : Blk w b (sV s x) t) (hn : n < 4294967296) (h0 : 0 ≤ s.blocks) (h1 : s.blocks < 9223372036854775808) :
    Calls Tryz.prog 119 #[.int .u32 (n : Int), .pointer (some ⟨b, 0, none⟩)] w (Ret fun v w' => v = .bool (pageOK s.blocks n) ∧ w' = w) := by
  apply calls119
  unfold S119 pageOK
  refine splitW_i (fun h => ?_) (fun h => ?_)
  · have h := of_decide_eq_true h
    refine boxF2 s.blocks hb (by rfl) ?_
    obtain ⟨k, hk⟩ : ∃ k : Nat, s.blocks = k := ⟨s.blocks.toNat, by omega⟩
    rw [hk, wrap_u64_nat (by omega), wrap_u64_nat (by omega)]
    refine ⟨?_, rfl⟩
    congr 1
    exact decide_eq_decide.2 (by omega)
  · have h := of_decide_eq_false h
    refine ⟨?_, rfl⟩
    congr 1
    exact (decide_eq_false (by omega)).symm
theorem rpage_calls {w : World} {size blocks : Int} {n : Nat} (hn : n < 4294967296) (h0 : 0 ≤ blocks) (h1 : blocks < 9223372036854775808) :
    Calls Tryz.prog 129 #[.agg #[.int .i64 size, .int .i64 blocks], .int .u32 (n : Int)] w (Ret fun v w' => v = .bool (pageOK blocks n) ∧ Ext w w') := by
  apply calls129
  unfold S129 pageOK
  refine new_i fun r1 w1 hb1 he1 _ _ => ?_
  refine splitW_i (fun h => ?_) (fun h => ?_)
  · have h := of_decide_eq_true h
    refine boxF 1 blocks hb1 (by rfl) ?_
    obtain ⟨k, hk⟩ : ∃ k : Nat, blocks = k := ⟨blocks.toNat, by omega⟩
    rw [hk, wrap_u64_nat (by omega), wrap_u64_nat (by omega)]
    refine ⟨?_, he1⟩
    congr 1
    exact decide_eq_decide.2 (by omega)
  · have h := of_decide_eq_false h
    refine ⟨?_, he1⟩
    congr 1
    exact (decide_eq_false (by omega)).symm
theorem index_calls {w : World} {A : Option Addr} {n c : Nat} {xs : List Nat} {y : Nat} (h : Sli (numE .u32) w A n xs) :
    Calls Tryz.prog 107 #[.slice A n c, .int .u32 (y : Int)] w (Ret fun v w' => (∃ k : Int, v = .int .i64 k ∧ (0 ≤ k ↔ y ∈ xs)) ∧ w' = w) := by
  apply calls107
  unfold S107
  have hl := h.len
  have hle := h.le
  refine loopW_i (fun z w' => ∃ i : Nat, i ≤ n ∧ z = ((i : Int), ()) ∧ w' = w ∧ y ∉ xs.take i) (fun z => (n - z.1).toNat) ⟨0, by omega, rfl, rfl, by simp⟩ ?_
  rintro _ _ ⟨i, hi, rfl, rfl, hno⟩
  dsimp only
  by_cases hlt : i < n
  · refine splitW_t (decide_eq_true (by omega)) ?_
    refine idx_num h (by omega) (by omega) ?_
    rw [Int.toNat_natCast]
    have e : xs[i]? = some (xs.getD i 0) := by rw [List.getD_eq_getElem?_getD, List.getElem?_eq_getElem (by omega)]; rfl
    refine splitW_i (fun hq => ?_) (fun hq => ?_)
    · have hq := beq_iff_eq.1 hq
      refine ⟨⟨_, rfl, by constructor <;> intro _; · exact List.mem_of_getElem? (i := i) (by rw [e]; congr 1; omega)
                          · omega⟩, rfl⟩
    · have hq := beq_eq_false_iff_ne.1 hq
      refine ⟨⟨i + 1, by omega, by rw [wrap_i64 (by omega) (by omega)]; rfl, rfl, ?_⟩, by rw [wrap_i64 (by omega) (by omega)]; omega⟩
      rw [List.take_add_one, e]
      simp only [Option.toList_some, List.mem_append, List.mem_singleton]
      rintro (hh | hh)
      · exact hno hh
      · exact hq (by rw [hh])
  · refine splitW_f (decide_eq_false (by omega)) ?_
    refine ⟨⟨_, rfl, by constructor; · intro hh; omega
                        · intro hh; rw [List.take_of_length_le (by omega)] at hno; exact absurd hh hno⟩, rfl⟩
theorem contains_calls {w : World} {A : Option Addr} {n c : Nat} {xs : List Nat} {y : Nat} (h : Sli (numE .u32) w A n xs) :
    Calls Tryz.prog 78 #[.slice A n c, .int .u32 (y : Int)] w (Ret fun v w' => v = .bool (decide (y ∈ xs)) ∧ w' = w) := by
  apply calls78
  unfold S78
  refine callW_of (index_calls (c := c) h) ?_
  rintro _ _ ⟨⟨k, rfl, hk⟩, rfl⟩
  refine ⟨k, rfl, ?_, rfl⟩
  congr 1
  exact decide_eq_decide.2 (by rw [← hk])
theorem Sup.Fits.at_ {s : Sup} (h : s.Fits) (i : Nat) : s.pages.getD i 0 < 4294967296 := by
  by_cases hi : i < s.pages.length
  · rw [List.getD_eq_getElem?_getD, List.getElem?_eq_getElem hi]
    exact h.pages _ (List.getElem_mem hi)
  · rw [List.getD_eq_getElem?_getD, List.getElem?_eq_none (by omega)]
    show 0 < 4294967296
    decide
theorem check_calls {w : World} {s : Sup} {x : SLC} (hf : s.Fits) (hp : Pg w x s.pages) :
    Calls Tryz.prog 93 #[.agg (sV s x).toArray] w (Ret fun v w' => v = .int .i64 (chk s) ∧ Ext w w') := by
  apply calls93
  unfold S93
  have hlen := hp.len
  refine new_i fun r1 w1 hb1 he1 _ _ => ?_
  have hb1 : Blk w1 r1 (sV s x) 79 := hb1
  have hp := hp.ext he1
  refine joinW_s (fun _ w' => s.head ∧ Ext w1 w') ?_ (fun J hJ => ?_)
  · rintro _ w2 ⟨hh, he2⟩
    have hb1 := hb1.ext he2
    have hp := hp.ext he2
    have he2 := he1.trans he2
    obtain ⟨h0, h1, h2, h3, h4⟩ := geo_room hh.1
    have hpl := pagesOf_le (size := s.size) (blocks := s.blocks)
    have hln : (s.pages.length : Int) ≤ 20000 := by have := hh.2.2.2; omega
    refine boxF 4 x hb1 (by rfl) ?_
    refine loopW_i (fun y w' => ∃ i : Nat, i ≤ x.2.1 ∧ y = ((i : Int), ()) ∧ Ext w2 w' ∧ ∀ j, j < i → s.good j) (fun y => (x.2.1 - y.1).toNat) ⟨0, by omega, rfl, Ext.refl w2, fun j hj => by omega⟩ ?_
    rintro _ w3 ⟨i, hi, rfl, he3, hgood⟩
    have hb1 := hb1.ext he3
    have hp := hp.ext he3
    have he3' := he2.trans he3
    dsimp only
    by_cases hlt : i < x.2.1
    · refine splitW_t (decide_eq_true (by omega)) ?_
      refine idx_num hp.sl (by omega) (by omega) ?_
      rw [Int.toNat_natCast]
      refine callVW_fn (by kernel_rfl) ?_
      refine callW_of (page_calls hb1 (hf.at_ i) (by omega) (by omega)) ?_
      rintro _ w4 ⟨rfl, hw⟩
      subst hw
      refine ⟨_, rfl, ?_⟩
      cases hpo : pageOK s.blocks (s.pages.getD i 0) with
      | false => exact splitW_t (by rfl) ⟨by rw [chk_bad (s := s) (j := i) (by omega) (fun h => by rw [h.1] at hpo; cases hpo)], he3'⟩
      | true =>
        refine splitW_f (by rfl) ?_
        refine boxF 3 (s.root : Int) hb1 (by rfl) ?_
        refine splitW_i (fun hq => ?_) (fun hq => ?_)
        · have hq := beq_iff_eq.1 hq
          exact ⟨by rw [chk_bad (s := s) (j := i) (by omega) (fun h => h.2.1 (by omega))], he3'⟩
        have hq := beq_eq_false_iff_ne.1 hq
        refine boxF 4 x hb1 (by rfl) (guard_i ⟨by omega, by have := hp.nc; omega⟩ ?_)
        have hcut := hp.sl.cut0 (k := i) (m := x.2.2) (z := 1) rfl (by omega) (by have := hp.nc; omega)
        refine callW_of (contains_calls (c := x.2.2) hcut) ?_
        rintro _ w4 ⟨rfl, hw⟩
        subst hw
        refine ⟨_, rfl, ?_⟩
        by_cases hm : s.pages.getD i 0 ∈ s.pages.take i
        · exact splitW_t (decide_eq_true hm) ⟨by rw [chk_bad (s := s) (j := i) (by omega) (fun h => h.2.2 hm)], he3'⟩
        · refine splitW_f (decide_eq_false hm) ?_
          refine ⟨⟨i + 1, by omega, by rw [wrap_i64 (by omega) (by omega)]; rfl, he3, fun j hj => ?_⟩, by rw [wrap_i64 (by omega) (by omega)]; omega⟩
          by_cases hji : j = i
          · subst hji; exact ⟨hpo, fun e => hq (by rw [e]), hm⟩
          · exact hgood j (by omega)
    · refine splitW_f (decide_eq_false (by omega)) ?_
      refine draw_i fun w4 he4 _ _ => ?_
      have hb1 := hb1.ext he4
      have he4 := he3'.trans he4
      refine boxF 4 x hb1 (by rfl) (boxF 1 s.size hb1 (by rfl) ?_)
      refine callW_of (room_calls w4 s.size) ?_
      rintro _ w5 ⟨rfl, he5⟩
      refine ⟨_, rfl, ?_⟩
      have hb1 := hb1.ext he5
      refine heldF hb1 (by rfl) ?_
      rw [wrap_i64 (x := 4 * (x.2.1 : Int)) (by omega) (by omega), wrap_i64 (by omega) (by omega), chk_long hh (fun j hj => hgood j (by omega)), hlen]
      refine splitW_i (fun hq => ?_) (fun hq => ?_)
      · rw [if_pos (of_decide_eq_true hq)]; exact ⟨rfl, he4.trans he5⟩
      · rw [if_neg (of_decide_eq_false hq)]; exact ⟨rfl, he4.trans he5⟩
  · have bad : ∀ {w' : World}, ¬ s.head → Ext w w' → (Value.int .i64 2 = .int .i64 (chk s) ∧ Ext w w') := fun h he => ⟨by rw [chk_head h], he⟩
    refine draw_i fun w2 he2 _ _ => ?_
    have hb1 := hb1.ext he2
    refine boxAt (ls := [.int .i64, .int .i64]) (s.size, s.blocks, ()) hb1 (by rfl) ?_
    refine callW_of (devcheck_calls w2 s.size s.blocks) ?_
    rintro _ w3 ⟨rfl, he3⟩
    refine ⟨_, rfl, ?_⟩
    have hb1 := hb1.ext he3
    have he3 := he2.trans he3
    cases hg : geoOK s.size s.blocks with
    | false => exact splitW_t (by rfl) (bad (fun h => by rw [h.1] at hg; cases hg) (he1.trans he3))
    | true =>
      obtain ⟨h0, h1, h2, h3, h4⟩ := geo_room hg
      refine splitW_f (by rfl) ?_
      refine box0 (s.gen : Int) hb1 (by rfl) ?_
      refine splitW_i (fun hq => ?_) (fun hq => ?_)
      · exact bad (fun h => h.2.1 (by have := beq_iff_eq.1 hq; omega)) (he1.trans he3)
      have hgen := beq_eq_false_iff_ne.1 hq
      refine boxF 3 (s.root : Int) hb1 (by rfl) ?_
      have last : ∀ {w' : World}, Blk w' r1 (sV s x) 79 → Ext w1 w' → (s.root = 0 ∨ pageOK s.blocks s.root = true) →
          (ldW .slc ((⟨r1, 0, none⟩ : Addr).add 4) fun (u : SLC) => ldAW [.int .i64, .int .i64] ((⟨r1, 0, none⟩ : Addr).add 1) fun (v : Int × Int × Unit) => callW Tryz.prog 71 [.agg #[.int .i64 v.1, .int .i64 v.2.1]] (.one (.one (.int .i64))) fun (z : Int) =>
            heldW [[((⟨r1, 0, none⟩ : Addr).add 4, .slice u.1 u.2.1 u.2.2)]] <| splitW (((u.2.1 : Nat) : Int) != z) (fun w' => Value.int .i64 (2 : Int) = .int .i64 (chk s) ∧ Ext w w') (J ())) w' := by
        intro w' hb1 he hr
        refine boxF 4 x hb1 (by rfl) (boxAt (ls := [.int .i64, .int .i64]) (s.size, s.blocks, ()) hb1 (by rfl) ?_)
        refine callW_of (superpages_calls w' s.size s.blocks) ?_
        rintro _ w5 ⟨rfl, he5⟩
        refine ⟨_, rfl, ?_⟩
        refine heldF (hb1.ext he5) (by rfl) ?_
        refine splitW_i (fun hq => ?_) (fun hq => ?_)
        · exact bad (fun h => bne_iff_ne.1 hq (by rw [← h.2.2.2, hlen])) ((he1.trans he).trans he5)
        · have hq := bne_eq_false_iff_eq.1 hq
          exact hJ _ _ ⟨⟨hg, by omega, hr, by rw [hlen]; exact hq⟩, he.trans he5⟩
      refine splitW_i (fun hq => ?_) (fun hq => ?_)
      · refine boxF 3 (s.root : Int) hb1 (by rfl) (callVW_fn (by kernel_rfl) ?_)
        refine callW_of (page_calls hb1 hf.root (by omega) (by omega)) ?_
        rintro _ w4 ⟨rfl, hw⟩
        subst hw
        refine ⟨_, rfl, ?_⟩
        cases hpo : pageOK s.blocks s.root with
        | false => exact splitW_t (by rfl) (bad (fun h => by
            rcases h.2.2.1 with h | h
            · exact bne_iff_ne.1 hq (by rw [h]; rfl)
            · rw [h] at hpo; cases hpo) (he1.trans he3))
        | true => exact splitW_f (by rfl) (last hb1 he3 (.inr hpo))
      · have hq := bne_eq_false_iff_eq.1 hq
        exact last hb1 he3 (.inl (by omega))
theorem rcheck_calls {w : World} {s : Sup} {x : SLC} (hf : s.Fits) (hp : Pg w x s.pages) :
    Calls Tryz.prog 110 #[.agg (sV s x).toArray] w (Ret fun v w' => v = .int .i64 (chk s) ∧ Ext w w') := by
  apply calls110
  unfold S110
  have hlen := hp.len
  refine new_i fun r1 w1 hb1 he1 _ _ => ?_
  have hb1 : Blk w1 r1 (sV s x) 79 := hb1
  have hp := hp.ext he1
  refine joinW_s (fun _ w' => s.head ∧ Ext w1 w') ?_ (fun J hJ => ?_)
  · rintro _ w2 ⟨hh, he2⟩
    have hb1 := hb1.ext he2
    have hp := hp.ext he2
    have he2 := he1.trans he2
    obtain ⟨h0, h1, h2, h3, h4⟩ := geo_room hh.1
    have hpl := pagesOf_le (size := s.size) (blocks := s.blocks)
    have hln : (s.pages.length : Int) ≤ 20000 := by have := hh.2.2.2; omega
    refine loopW_i (fun y w' => ∃ i : Nat, i ≤ x.2.1 ∧ y = ((i : Int), ()) ∧ Ext w2 w' ∧ ∀ j, j < i → s.good j) (fun y => (x.2.1 - y.1).toNat) ⟨0, by omega, rfl, Ext.refl w2, fun j hj => by omega⟩ ?_
    rintro _ w3 ⟨i, hi, rfl, he3, hgood⟩
    have hb1 := hb1.ext he3
    have hp := hp.ext he3
    have he3' := he2.trans he3
    dsimp only
    refine boxF 4 x hb1 (by rfl) ?_
    by_cases hlt : i < x.2.1
    · refine splitW_t (decide_eq_true (by omega)) ?_
      refine draw_i fun w4 he4 _ _ => ?_
      have hb1 := hb1.ext he4
      have hp := hp.ext he4
      have he4' := he3'.trans he4
      have he4 := he3.trans he4
      refine boxAt (ls := [.int .i64, .int .i64]) (s.size, s.blocks, ()) hb1 (by rfl) (boxF 4 x hb1 (by rfl) ?_)
      refine idx_num hp.sl (by omega) (by omega) ?_
      rw [Int.toNat_natCast]
      refine callW_of (rpage_calls (size := s.size) (blocks := s.blocks) (hf.at_ i) (by omega) (by omega)) ?_
      rintro _ w5 ⟨rfl, he5⟩
      refine ⟨_, rfl, ?_⟩
      have hb1 := hb1.ext he5
      have hp := hp.ext he5
      have he5' := he4'.trans he5
      have he5 := he4.trans he5
      cases hpo : pageOK s.blocks (s.pages.getD i 0) with
      | false => exact splitW_t (by rfl) ⟨by rw [chk_bad (s := s) (j := i) (by omega) (fun h => by rw [h.1] at hpo; cases hpo)], he5'⟩
      | true =>
        refine splitW_f (by rfl) (boxF 4 x hb1 (by rfl) ?_)
        refine idx_num hp.sl (by omega) (by omega) ?_
        rw [Int.toNat_natCast]
        refine boxF 3 (s.root : Int) hb1 (by rfl) ?_
        refine splitW_i (fun hq => ?_) (fun hq => ?_)
        · have hq := beq_iff_eq.1 hq
          exact ⟨by rw [chk_bad (s := s) (j := i) (by omega) (fun h => h.2.1 (by omega))], he5'⟩
        have hq := beq_eq_false_iff_ne.1 hq
        refine loopW_i (fun y w' => ∃ k : Nat, k ≤ i ∧ y = ((k : Int), ()) ∧ Ext w5 w' ∧ s.pages.getD i 0 ∉ s.pages.take k) (fun y => (i - y.1).toNat) ⟨0, by omega, rfl, Ext.refl w5, by simp⟩ ?_
        rintro _ w6 ⟨k, hk, rfl, he6, hno⟩
        have hb1 := hb1.ext he6
        have hp := hp.ext he6
        have he6' := he5'.trans he6
        dsimp only
        by_cases hki : k < i
        · refine splitW_t (decide_eq_true (by omega)) ?_
          refine draw_i fun w7 he7 _ _ => ?_
          have hb1 := hb1.ext he7
          have hp := hp.ext he7
          have he7' := he6'.trans he7
          have he7 := he6.trans he7
          refine boxF 4 x hb1 (by rfl) (idx_num hp.sl (by omega) (by omega) ?_)
          rw [Int.toNat_natCast]
          refine boxF 4 x hb1 (by rfl) (idx_num hp.sl (by omega) (by omega) ?_)
          rw [Int.toNat_natCast]
          have e : s.pages[k]? = some (s.pages.getD k 0) := by rw [List.getD_eq_getElem?_getD, List.getElem?_eq_getElem (by omega)]; rfl
          refine splitW_i (fun hz => ?_) (fun hz => ?_)
          · have hz := beq_iff_eq.1 hz
            have hm : s.pages.getD i 0 ∈ s.pages.take i := by
              refine List.mem_of_getElem? (i := k) ?_
              rw [List.getElem?_take_of_lt hki, e]
              congr 1
              omega
            exact ⟨by rw [chk_bad (s := s) (j := i) (by omega) (fun h => h.2.2 hm)], he7'⟩
          · have hz := beq_eq_false_iff_ne.1 hz
            refine ⟨⟨k + 1, by omega, by rw [wrap_i64 (by omega) (by omega)]; rfl, he7, ?_⟩, by rw [wrap_i64 (by omega) (by omega)]; omega⟩
            rw [List.take_add_one, e]
            simp only [Option.toList_some, List.mem_append, List.mem_singleton]
            rintro (hh | hh)
            · exact hno hh
            · exact hz (by rw [hh])
        · obtain rfl : k = i := by omega
          refine splitW_f (decide_eq_false (by omega)) ?_
          refine ⟨⟨k + 1, by omega, by rw [wrap_i64 (by omega) (by omega)]; rfl, he5.trans he6, fun j hj => ?_⟩, by rw [wrap_i64 (by omega) (by omega)]; omega⟩
          by_cases hji : j = k
          · subst hji; exact ⟨hpo, fun e => hq (by rw [e]), hno⟩
          · exact hgood j (by omega)
    · refine splitW_f (decide_eq_false (by omega)) ?_
      refine draw_i fun w4 he4 _ _ => ?_
      have hb1 := hb1.ext he4
      have he4 := he3'.trans he4
      refine boxF 4 x hb1 (by rfl) (boxF 1 s.size hb1 (by rfl) ?_)
      refine callW_of (refroom_calls w4 s.size) ?_
      rintro _ w5 ⟨rfl, he5⟩
      refine ⟨_, rfl, ?_⟩
      have hb1 := hb1.ext he5
      refine heldF hb1 (by rfl) ?_
      rw [wrap_i64 (x := 4 * (x.2.1 : Int)) (by omega) (by omega), wrap_i64 (by omega) (by omega), chk_long hh (fun j hj => hgood j (by omega)), hlen]
      refine splitW_i (fun hq => ?_) (fun hq => ?_)
      · rw [if_pos (of_decide_eq_true hq)]; exact ⟨rfl, he4.trans he5⟩
      · rw [if_neg (of_decide_eq_false hq)]; exact ⟨rfl, he4.trans he5⟩
  · have bad : ∀ {w' : World}, ¬ s.head → Ext w w' → (Value.int .i64 2 = .int .i64 (chk s) ∧ Ext w w') := fun h he => ⟨by rw [chk_head h], he⟩
    refine draw_i fun w2 he2 _ _ => ?_
    have hb1 := hb1.ext he2
    refine boxAt (ls := [.int .i64, .int .i64]) (s.size, s.blocks, ()) hb1 (by rfl) ?_
    refine callW_of (refcheck_calls w2 s.size s.blocks) ?_
    rintro _ w3 ⟨rfl, he3⟩
    refine ⟨_, rfl, ?_⟩
    have hb1 := hb1.ext he3
    have he3 := he2.trans he3
    cases hg : geoOK s.size s.blocks with
    | false => exact splitW_t (by rfl) (bad (fun h => by rw [h.1] at hg; cases hg) (he1.trans he3))
    | true =>
      obtain ⟨h0, h1, h2, h3, h4⟩ := geo_room hg
      refine splitW_f (by rfl) ?_
      refine box0 (s.gen : Int) hb1 (by rfl) ?_
      refine splitW_i (fun hq => ?_) (fun hq => ?_)
      · exact bad (fun h => h.2.1 (by have := beq_iff_eq.1 hq; omega)) (he1.trans he3)
      have hgen := beq_eq_false_iff_ne.1 hq
      refine boxF 3 (s.root : Int) hb1 (by rfl) ?_
      have last : ∀ {w' : World}, Blk w' r1 (sV s x) 79 → Ext w1 w' → (s.root = 0 ∨ pageOK s.blocks s.root = true) →
          (ldW .slc ((⟨r1, 0, none⟩ : Addr).add 4) fun (u : SLC) => ldAW [.int .i64, .int .i64] ((⟨r1, 0, none⟩ : Addr).add 1) fun (v : Int × Int × Unit) => callW Tryz.prog 130 [.agg #[.int .i64 v.1, .int .i64 v.2.1]] (.one (.one (.int .i64))) fun (z : Int) =>
            heldW [[((⟨r1, 0, none⟩ : Addr).add 4, .slice u.1 u.2.1 u.2.2)]] <| splitW (((u.2.1 : Nat) : Int) != z) (fun w' => Value.int .i64 (2 : Int) = .int .i64 (chk s) ∧ Ext w w') (J ())) w' := by
        intro w' hb1 he hr
        refine boxF 4 x hb1 (by rfl) (boxAt (ls := [.int .i64, .int .i64]) (s.size, s.blocks, ()) hb1 (by rfl) ?_)
        refine callW_of (rpages_calls w' s.size s.blocks) ?_
        rintro _ w5 ⟨rfl, he5⟩
        refine ⟨_, rfl, ?_⟩
        refine heldF (hb1.ext he5) (by rfl) ?_
        refine splitW_i (fun hq => ?_) (fun hq => ?_)
        · exact bad (fun h => bne_iff_ne.1 hq (by rw [← h.2.2.2, hlen])) ((he1.trans he).trans he5)
        · have hq := bne_eq_false_iff_eq.1 hq
          exact hJ _ _ ⟨⟨hg, by omega, hr, by rw [hlen]; exact hq⟩, he.trans he5⟩
      refine splitW_i (fun hq => ?_) (fun hq => ?_)
      · refine boxAt (ls := [.int .i64, .int .i64]) (s.size, s.blocks, ()) hb1 (by rfl) (boxF 3 (s.root : Int) hb1 (by rfl) ?_)
        refine callW_of (rpage_calls (size := s.size) (blocks := s.blocks) hf.root (by omega) (by omega)) ?_
        rintro _ w4 ⟨rfl, he4⟩
        refine ⟨_, rfl, ?_⟩
        have hb1 := hb1.ext he4
        have he4 := he3.trans he4
        cases hpo : pageOK s.blocks s.root with
        | false => exact splitW_t (by rfl) (bad (fun h => by
            rcases h.2.2.1 with h | h
            · exact bne_iff_ne.1 hq (by rw [h]; rfl)
            · rw [h] at hpo; cases hpo) (he1.trans he4))
        | true => exact splitW_f (by rfl) (last hb1 he4 (.inr hpo))
      · have hq := bne_eq_false_iff_eq.1 hq
        exact last hb1 he3 (.inl (by omega))
theorem wordsB_take {ps : List Nat} {i : Nat} (h : i < ps.length) : wordsB (ps.take (i + 1)) = wordsB (ps.take i) ++ le 4 (ps.getD i 0) := by
  have e : ps[i]? = some (ps.getD i 0) := by rw [List.getD_eq_getElem?_getD, List.getElem?_eq_getElem h]; rfl
  rw [List.take_add_one, e]
  simp [wordsB]
theorem sput_calls {w : World} {s : Sup} {x : SLC} (hf : s.Fits) (hp : Pg w x s.pages) :
    Calls Tryz.prog 83 #[.agg (sV s x).toArray] w (Ret fun v w' => v = .tuple #[.string ⟨(putS s).1.toArray⟩, .int .i64 (putS s).2] ∧ Ext w w') := by
  apply calls83
  unfold S83
  have hlen := hp.len
  refine new_i fun r1 w1 hb1 he1 _ _ => ?_
  have hb1 : Blk w1 r1 (sV s x) 79 := hb1
  have hp := hp.ext he1
  refine boxA (ls := sLs) (sT s x) hb1 rfl ?_
  refine callW_of (check_calls hf hp) ?_
  rintro _ w2 ⟨rfl, he2⟩
  refine ⟨_, rfl, ?_⟩
  have hb1 := hb1.ext he2
  have hp := hp.ext he2
  have he2 := he1.trans he2
  refine splitW_i (fun hq => ?_) (fun hq => ?_)
  · rw [putS_bad (bne_iff_ne.1 hq)]; exact ⟨rfl, he2⟩
  have hc := bne_eq_false_iff_eq.1 hq
  obtain ⟨hh, hgd, h14⟩ := chk_ok hc
  obtain ⟨g0, g1, g2, g3, g4⟩ := geo_room hh.1
  have hroot := hf.root
  have hn : s.pages.length ≤ 4080 := by omega
  obtain ⟨sz, hsz⟩ : ∃ k : Nat, s.size = k := ⟨s.size.toNat, by omega⟩
  obtain ⟨nb, hnb⟩ : ∃ k : Nat, s.blocks = k := ⟨s.blocks.toNat, by omega⟩
  refine boxF 1 s.size hb1 (by rfl) (boxF2 s.blocks hb1 (by rfl) (boxF 3 (s.root : Int) hb1 (by rfl) ?_))
  rw [hsz, hnb, wrap_u64_nat (by omega), wrap_u64_nat (by omega), wrap_u64_nat (by omega)]
  refine new_i fun r7 w3 hb7 he3 _ _ => ?_
  have hb7 : Blk w3 r7 ((numE .u64).flat [sz, nb, s.root]) 37 := hb7
  have hs7 : Sli (numE .u64) w3 (some ⟨r7, 0, none⟩) 3 [sz, nb, s.root] := Sli.of_blk hb7 rfl (by omega)
  have hb1 := hb1.ext he3
  have hp := hp.ext he3
  have he3 := he2.trans he3
  have hb3 := hb1
  have hp3 := hp
  have grow : ∀ {w' w'' : World} {A A' : Option Addr} {n c : Nat} {bs : List UInt8}, Ext w3 w' → Own 5 w' w3.heap.size A n c (bV bs) → Grew w' w'' (orow A) (orow A') → Ext w3 w'' := fun he ho hg => he.grown hg.grown (fun j hj => ho.row' j hj)
  refine loopW_i (fun y w' => ∃ i : Nat, i ≤ 3 ∧ y.2.1 = (i : Int) ∧ Own 5 w' w3.heap.size y.1.1 y.1.2.1 y.1.2.2 (bV (wordsB ([sz, nb, s.root].take i))) ∧ Ext w3 w') (fun y => (3 - y.2.1).toNat) ⟨0, by omega, rfl, Own.nil _ _ _, Ext.refl _⟩ ?_
  rintro ⟨⟨A, n, c⟩, _, _⟩ w4 ⟨i, hi, hiy, ho, he4⟩
  dsimp only at hiy ho ⊢
  subst hiy
  have hs7 := hs7.ext he4
  have lo := ho.sl.blen
  rw [wordsB_length, List.length_take] at lo
  simp only [List.length_cons, List.length_nil] at lo
  by_cases hlt : i < 3
  · refine splitW_t (decide_eq_true (by omega)) ?_
    refine idx_num hs7 (by omega) (by omega) ?_
    rw [Int.toNat_natCast]
    have hv : [sz, nb, s.root].getD i 0 < 18446744073709551616 := by
      match i, hlt with
      | 0, _ => show sz < _; omega
      | 1, _ => show nb < _; omega
      | 2, _ => show s.root < _; omega
    refine callW_of (octput_calls (k := 4) ho he4.size (by omega) hv (by omega) (by omega)) ?_
    rintro _ w5 ⟨⟨A5, n5, c5⟩, rfl, ho5, hg5⟩
    refine ⟨(A5, n5, c5), rfl, ?_⟩
    refine ⟨⟨i + 1, by omega, by rw [wrap_i64 (by omega) (by omega)]; rfl, ?_, grow he4 ho hg5⟩, by rw [wrap_i64 (by omega) (by omega)]; omega⟩
    have e : [sz, nb, s.root].take (i + 1) = [sz, nb, s.root].take i ++ [[sz, nb, s.root].getD i 0] := by
      match i, hlt with
      | 0, _ => rfl
      | 1, _ => rfl
      | 2, _ => rfl
    rw [e]
    have e2 : wordsB ([sz, nb, s.root].take i ++ [[sz, nb, s.root].getD i 0]) = wordsB ([sz, nb, s.root].take i) ++ le 4 ([sz, nb, s.root].getD i 0) := by simp [wordsB]
    rw [e2]
    exact ho5
  · obtain rfl : i = 3 := by omega
    refine splitW_f (decide_eq_false (by omega)) ?_
    have hb1 := hb1.ext he4
    have hp := hp.ext he4
    refine boxF 4 x hb1 (by rfl) ?_
    rw [wrap_u64_nat (by omega)]
    refine callW_of (octput_calls (k := 2) ho he4.size (by omega) (by omega) (by omega) (by omega)) ?_
    rintro _ w5 ⟨⟨A5, n5, c5⟩, rfl, ho5, hg5⟩
    refine ⟨(A5, n5, c5), rfl, ?_⟩
    have he5 := grow he4 ho hg5
    dsimp only at ho5 ⊢
    have eh : wordsB ([sz, nb, s.root].take 3) ++ le 2 x.2.1 = headS s := by
      unfold headS
      rw [hsz, hnb, hlen, Int.toNat_natCast, Int.toNat_natCast]
      simp [wordsB]
    rw [eh] at ho5
    have hb5 := hb3.ext he5
    refine boxF 4 x hb5 (by rfl) ?_
    refine loopW_i (fun y w' => ∃ i : Nat, i ≤ x.2.1 ∧ y.2.1 = (i : Int) ∧ Own 5 w' w3.heap.size y.1.1 y.1.2.1 y.1.2.2 (bV (headS s ++ wordsB (s.pages.take i))) ∧ Ext w3 w') (fun y => (x.2.1 - y.2.1).toNat) ⟨0, by omega, rfl, by simpa [wordsB] using ho5, he5⟩ ?_
    rintro ⟨⟨A6, n6, c6⟩, _, _⟩ w6 ⟨i, hi, hiy, ho6, he6⟩
    dsimp only at hiy ho6 ⊢
    subst hiy
    have l6 := ho6.sl.blen
    rw [List.length_append, headS_length, wordsB_length, List.length_take] at l6
    have hp6 := hp3.ext he6
    by_cases hlt : i < x.2.1
    · refine splitW_t (decide_eq_true (by omega)) ?_
      refine idx_num hp6.sl (by omega) (by omega) ?_
      rw [Int.toNat_natCast]
      have hv := hf.at_ i
      rw [wrap_u64_nat (by omega)]
      refine callW_of (octput_calls (k := 4) ho6 he6.size (by omega) (by omega) (by omega) (by omega)) ?_
      rintro _ w7 ⟨⟨A7, n7, c7⟩, rfl, ho7, hg7⟩
      refine ⟨(A7, n7, c7), rfl, ?_⟩
      refine ⟨⟨i + 1, by omega, by rw [wrap_i64 (by omega) (by omega)]; rfl, ?_, grow he6 ho6 hg7⟩, by rw [wrap_i64 (by omega) (by omega)]; omega⟩
      rw [wordsB_take (by omega), ← List.append_assoc]
      exact ho7
    · obtain rfl : i = x.2.1 := by omega
      refine splitW_f (decide_eq_false (by omega)) ?_
      rw [List.take_of_length_le (by omega)] at ho6
      have hb6 := hb3.ext he6
      refine boxF 1 s.size hb6 (by rfl) (box0 (s.gen : Int) hb6 (by rfl) ?_)
      refine conv_str (e := 5) (by kernel_rfl) (by kernel_rfl) (by kernel_rfl) ho6.sl ?_
      refine callW_of (fput_calls w6 s.size (f := fraS s) hf.gen) ?_
      rintro _ w7 ⟨rfl, he7⟩
      refine ⟨(⟨(putR s.size (fraS s)).1.toArray⟩, (putR s.size (fraS s)).2, ()), rfl, ?_⟩
      unfold putS
      rw [if_pos hc]
      exact ⟨rfl, he3.trans (he6.trans he7)⟩
theorem rsput_calls {w : World} {s : Sup} {x : SLC} (hf : s.Fits) (hp : Pg w x s.pages) :
    Calls Tryz.prog 89 #[.agg (sV s x).toArray] w (Ret fun v w' => v = .tuple #[.string ⟨(putS s).1.toArray⟩, .int .i64 (putS s).2] ∧ Ext w w') := by
  apply calls89
  unfold S89
  have hlen := hp.len
  refine new_i fun r1 w1 hb1 he1 _ _ => ?_
  have hb1 : Blk w1 r1 (sV s x) 79 := hb1
  have hp := hp.ext he1
  refine boxA (ls := sLs) (sT s x) hb1 rfl ?_
  refine callW_of (rcheck_calls hf hp) ?_
  rintro _ w2 ⟨rfl, he2⟩
  refine ⟨_, rfl, ?_⟩
  have hb1 := hb1.ext he2
  have hp := hp.ext he2
  have he2 := he1.trans he2
  refine splitW_i (fun hq => ?_) (fun hq => ?_)
  · rw [putS_bad (bne_iff_ne.1 hq)]; exact ⟨rfl, he2⟩
  have hc := bne_eq_false_iff_eq.1 hq
  obtain ⟨hh, hgd, h14⟩ := chk_ok hc
  obtain ⟨g0, g1, g2, g3, g4⟩ := geo_room hh.1
  have hroot := hf.root
  have hn : s.pages.length ≤ 4080 := by omega
  obtain ⟨sz, hsz⟩ : ∃ k : Nat, s.size = k := ⟨s.size.toNat, by omega⟩
  obtain ⟨nb, hnb⟩ : ∃ k : Nat, s.blocks = k := ⟨s.blocks.toNat, by omega⟩
  have grow : ∀ {w' w'' : World} {A A' : Option Addr} {n c : Nat} {bs : List UInt8}, Ext w2 w' → Own 5 w' w2.heap.size A n c (bV bs) → Grew w' w'' (orow A) (orow A') → Ext w2 w'' := fun he ho hg => he.grown hg.grown (fun j hj => ho.row' j hj)
  have eh : [] ++ le 4 sz ++ le 4 nb ++ le 4 s.root ++ le 2 x.2.1 = headS s := by
    unfold headS
    rw [hsz, hnb, hlen, Int.toNat_natCast, Int.toNat_natCast, List.nil_append]
  refine boxF 1 s.size hb1 (by rfl) ?_
  rw [hsz, wrap_u64_nat (by omega)]
  refine callW_of (put_calls (k := 4) (bs := []) (Own.nil _ w2 w2.heap.size) (Nat.le_refl _) (by omega) (by omega) (by omega) (by omega)) ?_
  rintro _ w3 ⟨⟨A3, n3, c3⟩, rfl, ho3, hg3⟩
  refine ⟨(A3, n3, c3), rfl, ?_⟩
  have he3 := grow (Ext.refl w2) (bs := []) (Own.nil _ w2 w2.heap.size) hg3
  dsimp only at ho3 ⊢
  have l3 := ho3.sl.blen
  simp only [List.nil_append, List.length_append, le_length] at l3
  refine boxF2 s.blocks (hb1.ext he3) (by rfl) ?_
  rw [hnb, wrap_u64_nat (by omega)]
  refine callW_of (put_calls (k := 4) ho3 he3.size (by omega) (by omega) (by omega) (by omega)) ?_
  rintro _ w4 ⟨⟨A4, n4, c4⟩, rfl, ho4, hg4⟩
  refine ⟨(A4, n4, c4), rfl, ?_⟩
  have he4 := grow he3 ho3 hg4
  dsimp only at ho4 ⊢
  have l4 := ho4.sl.blen
  simp only [List.nil_append, List.length_append, le_length] at l4
  refine boxF 3 (s.root : Int) (hb1.ext he4) (by rfl) ?_
  rw [wrap_u64_nat (by omega)]
  refine callW_of (put_calls (k := 4) ho4 he4.size (by omega) (by omega) (by omega) (by omega)) ?_
  rintro _ w5 ⟨⟨A5, n5, c5⟩, rfl, ho5, hg5⟩
  refine ⟨(A5, n5, c5), rfl, ?_⟩
  have he5 := grow he4 ho4 hg5
  dsimp only at ho5 ⊢
  have l5 := ho5.sl.blen
  simp only [List.nil_append, List.length_append, le_length] at l5
  refine boxF 4 x (hb1.ext he5) (by rfl) ?_
  rw [wrap_u64_nat (by omega)]
  refine callW_of (put_calls (k := 2) ho5 he5.size (by omega) (by omega) (by omega) (by omega)) ?_
  rintro _ w6 ⟨⟨A6, n6, c6⟩, rfl, ho6, hg6⟩
  refine ⟨(A6, n6, c6), rfl, ?_⟩
  have he6 := grow he5 ho5 hg6
  dsimp only at ho6 ⊢
  rw [eh] at ho6
  refine loopW_i (fun y w' => ∃ i : Nat, i ≤ x.2.1 ∧ y.2.1 = (i : Int) ∧ Own 5 w' w2.heap.size y.1.1 y.1.2.1 y.1.2.2 (bV (headS s ++ wordsB (s.pages.take i))) ∧ Ext w2 w') (fun y => (x.2.1 - y.2.1).toNat) ⟨0, by omega, rfl, by simpa [wordsB] using ho6, he6⟩ ?_
  rintro ⟨⟨A7, n7, c7⟩, _, _⟩ w7 ⟨i, hi, hiy, ho7, he7⟩
  dsimp only at hiy ho7 ⊢
  subst hiy
  have l7 := ho7.sl.blen
  rw [List.length_append, headS_length, wordsB_length, List.length_take] at l7
  have hp7 := hp.ext he7
  have hb7 := hb1.ext he7
  refine boxF 4 x hb7 (by rfl) ?_
  by_cases hlt : i < x.2.1
  · refine splitW_t (decide_eq_true (by omega)) ?_
    refine boxF 4 x hb7 (by rfl) ?_
    refine idx_num hp7.sl (by omega) (by omega) ?_
    rw [Int.toNat_natCast]
    have hv := hf.at_ i
    rw [wrap_u64_nat (by omega)]
    refine callW_of (put_calls (k := 4) ho7 he7.size (by omega) (by omega) (by omega) (by omega)) ?_
    rintro _ w8 ⟨⟨A8, n8, c8⟩, rfl, ho8, hg8⟩
    refine ⟨(A8, n8, c8), rfl, ?_⟩
    refine ⟨⟨i + 1, by omega, by rw [wrap_i64 (by omega) (by omega)]; rfl, ?_, grow he7 ho7 hg8⟩, by rw [wrap_i64 (by omega) (by omega)]; omega⟩
    rw [wordsB_take (by omega), ← List.append_assoc]
    exact ho8
  · obtain rfl : i = x.2.1 := by omega
    refine splitW_f (decide_eq_false (by omega)) ?_
    rw [List.take_of_length_le (by omega)] at ho7
    refine boxF 1 s.size hb7 (by rfl) (box0 (s.gen : Int) hb7 (by rfl) ?_)
    refine conv_str (e := 5) (by kernel_rfl) (by kernel_rfl) (by kernel_rfl) ho7.sl ?_
    refine callW_of (rfput_calls w7 s.size (f := fraS s) hf.gen) ?_
    rintro _ w8 ⟨rfl, he8⟩
    refine ⟨(⟨(putR s.size (fraS s)).1.toArray⟩, (putR s.size (fraS s)).2, ()), rfl, ?_⟩
    unfold putS
    rw [if_pos hc]
    exact ⟨rfl, he2.trans (he7.trans he8)⟩
end Go.Proofs.YtjdmggaeagnolaaGreatDoor.V
/- Contracts of the package super: Get. -/
namespace Go.Proofs.YtjdmggaeagnolaaGreatDoor.V
open Go Go.Proofs Go.RowKit Crc
theorem setS {w : World} {r : Nat} {cs : List Value} {t : TypeId} {s : Sup} {x : SLC} {K : (Int × Int × Int × Int × SLC × Unit) → WP} {us : Array Value} (hb : Blk w r cs t) (hl : cs.length = 5) (hu : us.size = 5)
    (hK : ∀ w', Blk w' r (sV s x) t → (∀ w0, Ext w0 w → w0.heap.size ≤ r → Ext w0 w') → (∀ k : Nat, k ≠ r → w'.heap[k]? = w.heap[k]?) → w'.heap.size = w.heap.size → K (sT s x) w') :
    (guardW (us.size = 5) <| stAW (⟨r, 0, none⟩ : Addr) (sV s x) <| ldAW sLs (⟨r, 0, none⟩ : Addr) K) w :=
  refill (vs := sV s x) hb (by rw [hl]; rfl) (sV_one s x) hu fun w' hb' hx hs hz => boxA (ls := sLs) (sT s x) hb' rfl (hK w' hb' hx hs hz)
theorem boxedS {w : World} {t : TypeId} {s : Sup} {x : SLC} {K : Nat → WP} {us : Array Value} (hu : us.size = 5) (hK : ∀ r w', Blk w' r (sV s x) t → Ext w w' → w.heap.size ≤ r → K r w') :
    (newW (.cells #[(.int .u64 (0 : Int)), (.int .i64 (0 : Int)), (.int .i64 (0 : Int)), (.int .u32 (0 : Int)), (.slice none 0 0)] t) fun r => guardW (us.size = 5) <| stAW (⟨r, 0, none⟩ : Addr) (sV s x) (K r)) w :=
  box_i (vs := sV s x) (by rfl) (sV_one s x) (fun r w' hb he hr => hK r w' hb he hr) hu
theorem grown_of_set {w w1 w' : World} {r : Nat} (h0 : Ext w w1) (h1 : Ext w w') (hk : ∀ k : Nat, k ≠ r → w'.heap[k]? = w1.heap[k]?) (hz : w'.heap.size = w1.heap.size) : w1.grownBy w' (some r) :=
  ⟨h1.os.trans h0.os.symm, h1.tape.trans h0.tape.symm, h1.output.trans h0.output.symm, by omega, fun k _ hne => hk k (fun e => hne (by rw [e]))⟩
def GetRet (w : World) (bs : List UInt8) (v : Value) (w' : World) : Prop := ∃ x : SLC, v = .tuple #[.agg (sV (getS bs).1 x).toArray, .int .i64 (getS bs).2] ∧ Pg w' x (getS bs).1.pages ∧ Ext w w' ∧ ∀ a, x.1 = some a → w.heap.size ≤ a.block
theorem getRet_0 {w w' : World} {bs : List UInt8} {e : Int} (h : getS bs = (sup0, e)) (he : Ext w w') : GetRet w bs (.tuple #[.agg (sV sup0 (none, 0, 0)).toArray, .int .i64 e]) w' :=
  ⟨(none, 0, 0), by rw [h], by rw [h]; exact Pg.nil w', he, fun a ha => by cases ha⟩
def st (d : List UInt8) : Nat → List UInt8 × List Nat
  | 0 => (d, [0, 0, 0])
  | i + 1 => ((rd (st d i).1 4).2.2, (st d i).2.set i (rd (st d i).1 4).1)
theorem st_len (d : List UInt8) (i : Nat) : (st d i).2.length = 3 := by
  induction i with
  | zero => rfl
  | succ i ih => rw [st, List.length_set, ih]
theorem rd_lt4 (bs : List UInt8) : (rd bs 4).1 < 4294967296 := by
  unfold rd
  split
  · show (0 : Nat) < 4294967296; decide
  · exact lev_lt4 (by rw [List.length_take]; omega)
theorem st3 (d : List UInt8) : ∃ a b c : Nat, (st d 3).2 = [a, b, c] ∧ a < 4294967296 ∧ b < 4294967296 ∧ c < 4294967296 :=
  ⟨(rd d 4).1, (rd (rd d 4).2.2 4).1, (rd (rd (rd d 4).2.2 4).2.2 4).1, rfl, rd_lt4 _, rd_lt4 _, rd_lt4 _⟩
theorem rd_le {k n : Nat} {r : List UInt8} : rd (le k n ++ r) k = (lev (le k n), 0, r) := by
  unfold rd
  rw [if_neg (by rw [List.length_append, le_length]; omega), List.take_left' (le_length _ _), List.drop_left' (le_length _ _)]
theorem st_data {s : Sup} (hc : chk s = 0) (hf : s.Fits) : (st (dataS s) 3).2 = [s.size.toNat, s.blocks.toNat, s.root] ∧ rd (st (dataS s) 3).1 2 = (s.pages.length, 0, wordsB s.pages) := by
  obtain ⟨h1, h2, h3⟩ := chk_ok hc
  obtain ⟨g0, g1, g2, g3, g4⟩ := geo_room h1.1
  have e : dataS s = le 4 s.size.toNat ++ (le 4 s.blocks.toNat ++ (le 4 s.root ++ (le 2 s.pages.length ++ wordsB s.pages))) := by simp [dataS, headS]
  have e1 : st (dataS s) 1 = (le 4 s.blocks.toNat ++ (le 4 s.root ++ (le 2 s.pages.length ++ wordsB s.pages)), [s.size.toNat, 0, 0]) := by
    rw [st, st, e, rd_le, lev4 (by omega)]; rfl
  have e2 : st (dataS s) 2 = (le 4 s.root ++ (le 2 s.pages.length ++ wordsB s.pages), [s.size.toNat, s.blocks.toNat, 0]) := by
    rw [st, e1, rd_le, lev4 (by omega)]; rfl
  have e3 : st (dataS s) 3 = (le 2 s.pages.length ++ wordsB s.pages, [s.size.toNat, s.blocks.toNat, s.root]) := by
    rw [st, e2, rd_le, lev4 hf.root]; rfl
  rw [e3]
  refine ⟨rfl, ?_⟩
  rw [rd_le, lev_le2 (by omega)]
theorem put_data {s : Sup} {bs : List UInt8} (hf : s.Fits) (h : putS s = (bs, 0)) : chk s = 0 ∧ B (kindR bs 1).1.2.2 = dataS s ∧ (kindR bs 1).1.2.1 = s.gen := by
  have e := getS_uniq hf h
  rw [e]
  exact ⟨putS_ok (by rw [h]), fraS_data s, rfl⟩
theorem elem_u32 : ElemK Tryz.prog 40 31 (.int .u32 0) 1 4 := ⟨by kernel_rfl, by kernel_rfl, by kernel_rfl⟩
theorem numE_flat (k : IntKind) (l : List Nat) : (numE k).flat l = l.map fun n : Nat => (.int k (n : Int) : Value) := by
  induction l with
  | nil => rfl
  | cons a r ih => rw [List.map_cons, ← ih]; rfl
theorem numE_set (k : IntKind) (l : List Nat) (i v : Nat) : ((numE k).flat l).set i (.int k (v : Int)) = (numE k).flat (l.set i v) := by
  rw [numE_flat, numE_flat, List.map_set]
theorem rd_lt2 (bs : List UInt8) : (rd bs 2).1 < 65536 := by
  unfold rd
  split
  · show (0 : Nat) < 65536; decide
  · have h := lev_lt (bs.take 2)
    have h2 : (bs.take 2).length ≤ 2 := by rw [List.length_take]; omega
    have : 256 ^ (bs.take 2).length ≤ 256 ^ 2 := Nat.pow_le_pow_right (by omega) h2
    dsimp only
    omega
theorem sget_calls (w : World) (s : ByteArray) (hs : s.size ≤ 9223372036854775807) : Calls Tryz.prog 67 #[.string s] w (Ret (GetRet w (B s))) := by
  apply calls67
  unfold S67
  refine new_i fun r1 w1 hb1 he1 hr1 _ => ?_
  have hb1 : Blk w1 r1 (sV sup0 (none, 0, 0)) 79 := hb1
  refine callW_of (fkind_calls w1 s hs 1) ?_
  rintro _ w2 ⟨rfl, he2⟩
  refine ⟨(fT (kindR (B s) 1).1, (kindR (B s) 1).2, ()), rfl, ?_⟩
  have hb1 := hb1.ext he2
  have he2 := he1.trans he2
  refine boxed (f := (kindR (B s) 1).1) fun r3 w3 hb3 he3 hr3 => ?_
  have hb1 := hb1.ext he3
  have he3 := he2.trans he3
  dsimp only
  refine splitW_i (fun hq => ?_) (fun hq => ?_)
  · have hq := bne_iff_ne.1 hq
    exact boxA (ls := sLs) (sT sup0 (none, 0, 0)) hb1 rfl (setS (s := sup0) (x := (none, 0, 0)) hb1 rfl rfl fun w' _ hx _ _ => getRet_0 (getS_e hq) (hx w he3 (by omega)))
  have hk0 := bne_eq_false_iff_eq.1 hq
  have hgen : (kindR (B s) 1).1.2.1 < 18446744073709551616 := by
    unfold kindR
    split
    · decide
    · exact getR_gen (B s)
  have hdata : (B (kindR (B s) 1).1.2.2).length ≤ 4096 := by
    have hg0 : (getR (B s)).2 = 0 := by
      unfold kindR at hk0
      split at hk0
      · cases hk0
      · exact hk0
    obtain ⟨_, _, _, q4, _⟩ := putR_ok (by rw [(getR_ok hg0).2])
    unfold kindR
    split
    · decide
    · rw [(getR_ok hg0).1]; omega
  generalize hfk : (kindR (B s) 1).1 = f at *
  have hds := B_size f.2.2
  refine boxF 2 f.2.2 hb3 (by rfl) ?_
  refine conv_bytes (u := .string) (e := 5) (by kernel_rfl) (by kernel_rfl) (by kernel_rfl) (by omega) ?_
  intro c w4 hsl he4 hs4 hc4
  have hb1 := hb1.ext he4
  have hb3 := hb3.ext he4
  have he4 := he3.trans he4
  have hb14 := hb1
  have hb34 := hb3
  refine callW_of (onew_calls hsl (by dsimp only; omega)) ?_
  rintro _ w5 ⟨b, rfl, hbl, hrd, he5⟩
  refine ⟨some ⟨b, 0, none⟩, rfl, ?_⟩
  have hb1 := hb1.ext he5
  have hb3 := hb3.ext he5
  have hr1lt : r1 < w4.heap.size := by exact hb14.lt
  have hr3lt : r3 < w4.heap.size := by exact hb34.lt
  have he5' := he4.trans he5
  refine new_i fun r9 w6 hb9 he6 hr9 hz9 => ?_
  have hrd := hrd.ext he6
  have hb9 : Blk w6 r9 ((numE .u64).flat (st (B f.2.2) 0).2) _ := hb9
  have hb1 := hb1.ext he6
  have hb3 := hb3.ext he6
  have he46 := he5.trans he6
  have hbr := hrd.lt
  have hbr9 : b < r9 := by have := (show Rdr w5 w4.heap.size b _ by assumption).lt; omega
  refine loopW_i (fun y w' => ∃ i : Nat, i ≤ 3 ∧ y = ((i : Int), ()) ∧ Ext w4 w' ∧ w6.heap.size ≤ w'.heap.size ∧ Rdr w' w4.heap.size b (st (B f.2.2) i).1 ∧ Blk w' r9 ((numE .u64).flat (st (B f.2.2) i).2) 165) (fun y => (3 - y.1).toNat) ⟨0, by omega, rfl, he46, Nat.le_refl _, hrd, hb9⟩ ?_
  rintro _ w7 ⟨i, hi, rfl, he7, hz7, hrd7, hb97⟩
  dsimp only
  by_cases hlt : i < 3
  · refine splitW_t (decide_eq_true (by omega)) ?_
    refine callW_of (number_calls (k := 4) hrd7 (by omega) (by omega)) ?_
    rintro _ w8 ⟨rfl, hrd8, hg8⟩
    refine ⟨(((rd (st (B f.2.2) i).1 4).1 : Int), (rd (st (B f.2.2) i).1 4).2.1, ()), rfl, ?_⟩
    dsimp only
    refine guard_i ⟨by omega, by omega⟩ ?_
    have hb98 := hb97.grown hg8 (by simp; omega)
    rw [add_mk, Int.toNat_natCast, Nat.zero_add, Nat.mul_one]
    refine stW_blk hb98 (by rw [(numE .u64).flat_length, st_len]; show i < 3 * 1; omega) ?_
    have hg9 := set_grown w8 r9 i (.int .u64 ((rd (st (B f.2.2) i).1 4).1 : Int))
    have hb99 := hb98.set i (.int .u64 ((rd (st (B f.2.2) i).1 4).1 : Int))
    rw [numE_set] at hb99
    refine ⟨⟨i + 1, by omega, by rw [wrap_i64 (by omega) (by omega)]; rfl, (he7.grown hg8 (fun j hj => by injection hj with hj; omega)).grown hg9 (fun j hj => by injection hj with hj; omega), ?_, hrd8.grown hg9 (fun j hj => by injection hj with hj; omega), hb99⟩, by rw [wrap_i64 (by omega) (by omega)]; omega⟩
    exact Nat.le_trans (Nat.le_trans hz7 hg8.size) hg9.size
  obtain rfl : i = 3 := by omega
  refine splitW_f (decide_eq_false (by omega)) ?_
  refine callW_of (number_calls (k := 2) hrd7 (by omega) (by omega)) ?_
  rintro _ w8 ⟨rfl, hrd8, hg8⟩
  generalize hn : (rd (st (B f.2.2) 3).1 2).1 = n at *
  generalize hr0 : (rd (st (B f.2.2) 3).1 2).2.2 = r0 at *
  refine ⟨((n : Int), (rd (st (B f.2.2) 3).1 2).2.1, ()), rfl, ?_⟩
  dsimp only
  have hn2 : n < 65536 := by rw [← hn]; exact rd_lt2 _
  obtain ⟨a0, a1, a2, e3, l0, l1, l2⟩ := st3 (B f.2.2)
  rw [e3] at hb97
  have hb98 := hb97.grown hg8 (by simp; omega)
  have he8 : Ext w4 w8 := he7.grown hg8 (fun j hj => by injection hj with hj; omega)
  have hb1 : Blk w8 r1 (sV sup0 (none, 0, 0)) 79 := hb14.ext he8
  have hb3 : Blk w8 r3 (fV f) 87 := hb34.ext he8
  refine boxF 1 (f.2.1 : Int) hb3 (by rfl) (guard_i ⟨by omega, by omega⟩ (boxF 0 (a0 : Int) hb98 (by rfl) (guard_i ⟨by omega, by omega⟩ (boxF 1 (a1 : Int) hb98 (by rfl) (guard_i ⟨by omega, by omega⟩ (boxF 2 (a2 : Int) hb98 (by rfl) ?_))))))
  rw [wrap_i64 (x := (a0 : Int)) (by omega) (by omega), wrap_i64 (x := (a1 : Int)) (by omega) (by omega), wrap_u32_nat l2]
  refine refill (vs := sV ⟨f.2.1, a0, a1, a2, []⟩ (none, 0, 0)) hb1 rfl (sV_one _ _) rfl ?_
  intro w9 hb19 hx9 hk9 hz9
  have he9 : Ext w w9 := hx9 w (he4.trans he8) (by omega)
  have hg9 : w8.grownBy w9 (some r1) := by
    have h8 : Ext w w8 := he4.trans he8
    exact ⟨he9.os.trans h8.os.symm, he9.tape.trans h8.tape.symm, he9.output.trans h8.output.symm, by omega, fun k hk hne => hk9 k (fun e => hne (by rw [e]))⟩
  have hrd9 := hrd8.grown hg9 (fun j hj => by injection hj with hj; omega)
  have hput : ∀ {q : Sup}, q.Fits → putS q = (B s, 0) → q = ⟨f.2.1, a0, a1, a2, wordsOf n r0⟩ ∧ r0.length = 4 * n := by
    intro q hqf hq
    obtain ⟨hqc, hqd, hqg⟩ := put_data hqf hq
    rw [hfk] at hqd hqg
    obtain ⟨q1, q2⟩ := st_data hqc hqf
    rw [← hqd] at q1 q2
    rw [e3] at q1
    obtain ⟨c1, c2, c3⟩ := chk_ok hqc
    obtain ⟨g0, g1, g2, g3, g4⟩ := geo_room c1.1
    have en : n = q.pages.length := by rw [← hn, q2]
    have er : r0 = wordsB q.pages := by rw [← hr0, q2]
    have hw : wordsOf n r0 = q.pages := by rw [en, er, wordsOf_wordsB _ hqf.pages]
    have hrl : r0.length = 4 * n := by rw [er, en, wordsB_length]
    rw [hw]
    refine ⟨?_, hrl⟩
    simp only [List.cons.injEq, and_true] at q1
    obtain ⟨q1, q2, q3⟩ := q1
    cases q
    simp only [Sup.mk.injEq, and_true]
    dsimp only at hqg q1 q2 q3 g1 g3
    omega
  have back : ∀ {w' : World} {x : SLC} {z : Sup}, Ext w w' → Blk w' r1 (sV z x) 79 → getS (B s) = (sup0, 4) →
      (guardW ((#[(.int .u64 (0 : Int)), (.int .i64 (0 : Int)), (.int .i64 (0 : Int)), (.int .u32 (0 : Int)), (.slice none 0 0)] : Array Value).size = 5) <| stAW (⟨r1, 0, none⟩ : Addr) [(.int .u64 (0 : Int)), (.int .i64 (0 : Int)), (.int .i64 (0 : Int)), (.int .u32 (0 : Int)), (.slice none 0 0)] <| ldAW sLs (⟨r1, 0, none⟩ : Addr) fun (u : Int × Int × Int × Int × SLC × Unit) => fun w'' => GetRet w (B s) (Value.tuple #[(.agg #[(.int .u64 u.1), (.int .i64 u.2.1), (.int .i64 u.2.2.1), (.int .u32 u.2.2.2.1), (.slice u.2.2.2.2.1.1 u.2.2.2.2.1.2.1 u.2.2.2.2.1.2.2)]), (.int .i64 4)]) w'') w' := by
    intro w' x z he hb hg
    exact setS (s := sup0) (x := (none, 0, 0)) hb rfl rfl fun w'' _ hx _ _ => getRet_0 hg (hx w he (by omega))
  refine loopW_i (fun y w' => ∃ (i : Nat) (x : SLC), i ≤ n ∧ 4 * i ≤ r0.length ∧ y = ((i : Int), ()) ∧ Ext w w' ∧ w9.heap.size ≤ w'.heap.size ∧ Rdr w' w4.heap.size b (r0.drop (4 * i)) ∧ Blk w' r1 (sV ⟨f.2.1, a0, a1, a2, wordsOf i r0⟩ x) 79 ∧ Owni (numE .u32) 31 w' w9.heap.size x.1 x.2.1 x.2.2 (wordsOf i r0)) (fun y => (n - y.1).toNat) ⟨0, (none, 0, 0), by omega, by omega, rfl, he9, Nat.le_refl _, by simpa using hrd9, hb19, Owni.nil _ _ _⟩ ?_
  rintro _ w10 ⟨i, x, hi, hir, rfl, he10, hz10, hrd10, hb10, ho10⟩
  dsimp only
  have hb9lt := hrd9.lt
  have hlx := ho10.len
  rw [wordsOf_length] at hlx
  by_cases hlt : i < n
  · refine splitW_t (decide_eq_true (by omega)) ?_
    refine callW_of (number_calls (k := 4) hrd10 (by omega) (by omega)) ?_
    rintro _ w11 ⟨rfl, hrd11, hg11⟩
    refine ⟨(((rd (r0.drop (4 * i)) 4).1 : Int), (rd (r0.drop (4 * i)) 4).2.1, ()), rfl, ?_⟩
    dsimp only
    have he11 : Ext w w11 := he10.grown hg11 (fun j hj => by injection hj with hj; have := (he4).size; omega)
    have hb11 := hb10.grown hg11 (by simp; omega)
    have ho11 : Owni (numE .u32) 31 w11 w9.heap.size x.1 x.2.1 x.2.2 (wordsOf i r0) := ho10.grown hg11 (fun j hj e => by injection hj with hj; have := ho10.row j e; omega)
    have hrd4 := rd_lt4 (r0.drop (4 * i))
    by_cases hsh : (r0.drop (4 * i)).length < 4
    · have e1 : (rd (r0.drop (4 * i)) 4).2.1 = 7 := by unfold rd; rw [if_pos hsh]
      rw [e1]
      refine splitW_t (by rfl) (back he11 hb11 (getS_4 (by rw [hk0]) ?_))
      intro q hqf hq
      have := (hput hqf hq).2
      rw [List.length_drop] at hsh
      omega
    · have e1 : rd (r0.drop (4 * i)) 4 = (lev ((r0.drop (4 * i)).take 4), 0, r0.drop (4 * (i + 1))) := by
        unfold rd
        rw [if_neg hsh, List.drop_drop]
        rfl
      rw [e1] at hrd11 hrd4 ⊢
      dsimp only at hrd11 hrd4 ⊢
      refine splitW_f (by rfl) (boxF 4 x hb11 (by rfl) ?_)
      rw [wrap_u32_nat hrd4]
      rw [List.length_drop] at hsh
      refine append_newi (E := numE .u32) (ys := [lev ((r0.drop (4 * i)).take 4)]) (by rfl) rfl elem_u32 ho11 (Nat.le_trans hz10 hg11.size) (by omega) (by omega) ?_
      intro A12 c12 w12 ho12 hg12
      have hb12 := hb11.grown hg12.grown (fun e => by have := ho11.row r1 e.symm; omega)
      have he12 : Ext w w12 := he11.grown hg12.grown (fun j hj => by have := ho11.row j hj; have := he9.size; omega)
      have hrd12 := hrd11.grown hg12.grown (fun j hj => by have := ho11.row j hj; omega)
      rw [add_mk]
      refine stW_blk hb12 (by show 0 + 4 < 5; omega) ?_
      have hg13 := set_grown w12 r1 (0 + 4) (.slice A12 (x.2.1 + 1) c12)
      have hb13 := hb12.set (0 + 4) (.slice A12 (x.2.1 + 1) c12)
      rw [← wordsOf_succ] at ho12
      refine ⟨⟨i + 1, (A12, x.2.1 + 1, c12), by omega, by omega, by rw [show (i : Int) + 1 = ((i + 1 : Nat) : Int) by omega, wrap_u64_nat (a := i + 1) (by omega)], he12.grown hg13 (fun j hj => by injection hj with hj; omega), ?_, hrd12.grown hg13 (fun j hj => by injection hj with hj; omega), hb13, ho12.grown hg13 (fun j hj e => by injection hj with hj; have := ho12.row j e; omega)⟩, ?_⟩
      · exact Nat.le_trans (Nat.le_trans (Nat.le_trans hz10 hg11.size) hg12.grown.size) hg13.size
      · have e : (i : Int) + 1 = ((i + 1 : Nat) : Int) := by omega
        rw [e, wrap_u64_nat (by omega)]
        omega
  obtain rfl : i = n := by omega
  refine splitW_f (decide_eq_false (by omega)) ?_
  have hfit : Sup.Fits ⟨f.2.1, a0, a1, a2, wordsOf i r0⟩ := ⟨hgen, by dsimp only; omega, by dsimp only; omega, l2, wordsOf_lt _ _⟩
  have hpg : Pg w10 x (wordsOf i r0) := ⟨ho10.sl, ho10.le.1⟩
  generalize hs1 : (⟨f.2.1, a0, a1, a2, wordsOf i r0⟩ : Sup) = s1 at *
  have hpp : s1.pages = wordsOf i r0 := by rw [← hs1]
  rw [← hpp] at hpg
  refine boxA (ls := sLs) (sT s1 x) hb10 rfl ?_
  refine callW_of (sput_calls hfit hpg) ?_
  rintro _ w11 ⟨rfl, he11⟩
  have ho11 := ho10.ext he11
  refine ⟨(⟨(putS s1).1.toArray⟩, (putS s1).2, ()), rfl, ?_⟩
  dsimp only
  have hb11 := hb10.ext he11
  have hpg11 := hpg.ext he11
  have he11 := he10.trans he11
  have no : putS s1 ≠ (B s, 0) → getS (B s) = (sup0, 4) := fun h => getS_4 (by rw [hk0]) (fun q hqf hq => h (by rw [← (hput hqf hq).1]; exact hq))
  refine splitW_i (fun hz => ?_) (fun hz => ?_)
  · exact back he11 hb11 (no (fun e => bne_iff_ne.1 hz (by rw [e])))
  have hz := bne_eq_false_iff_eq.1 hz
  rw [str_beq, B_mk]
  refine splitW_i (fun hz2 => ?_) (fun hz2 => ?_)
  · exact back he11 hb11 (no (fun e => by rw [e] at hz2; simp at hz2))
  have hz2 : (putS s1).1 = B s := by simpa using hz2
  have hgs := getS_put hfit (show putS s1 = (B s, 0) from Prod.ext hz2 hz)
  refine boxA (ls := sLs) (sT s1 x) hb11 rfl (setS (s := s1) (x := x) hb11 rfl rfl fun w' _ hx hk hz => ⟨x, by rw [hgs]; rfl, ?_, hx w he11 (by omega), fun a ha => by have := ho10.row a.block (by rw [ha]; rfl); have := he9.size; omega⟩)
  rw [hgs]
  have ho' := ho11.grown (grown_of_set he11 (hx w he11 (by omega)) hk hz) (fun j hj e => by injection hj with hj; have := ho10.row j e; omega)
  exact ⟨by dsimp only; rw [hpp]; exact ho'.sl, hpg11.nc⟩
end Go.Proofs.YtjdmggaeagnolaaGreatDoor.V
/- Contracts of the document's answer (11): Get. -/
namespace Go.Proofs.YtjdmggaeagnolaaGreatDoor.V
open Go Go.Proofs Go.RowKit Crc
theorem getS_short {bs : List UInt8} (h : (kindR bs 1).2 = 0) (h1 : (B (kindR bs 1).1.2.2).length < 14) : getS bs = (sup0, 4) := by
  unfold getS
  rw [if_neg (by simpa using h), if_pos h1]
theorem getS_dec {bs : List UInt8} (h : (kindR bs 1).2 = 0) (h1 : ¬ (B (kindR bs 1).1.2.2).length < 14) : getS bs = if putS (decS (kindR bs 1).1) = (bs, 0) then (decS (kindR bs 1).1, 0) else (sup0, 4) := by
  unfold getS
  rw [if_neg (by simpa using h), if_neg h1]
theorem rsget_calls (w : World) (s : ByteArray) (hs : s.size ≤ 9223372036854775807) : Calls Tryz.prog 50 #[.string s] w (Ret (GetRet w (B s))) := by
  apply calls50
  unfold S50
  refine new_i fun r1 w1 hb1 he1 hr1 _ => ?_
  have hb1 : Blk w1 r1 (sV sup0 (none, 0, 0)) 79 := hb1
  refine callW_of (rfkind_calls w1 s hs 1) ?_
  rintro _ w2 ⟨rfl, he2⟩
  refine ⟨(fT (kindR (B s) 1).1, (kindR (B s) 1).2, ()), rfl, ?_⟩
  have hb1 := hb1.ext he2
  have he2 := he1.trans he2
  refine boxed (f := (kindR (B s) 1).1) fun r3 w3 hb3 he3 hr3 => ?_
  have hb1 := hb1.ext he3
  have he3 := he2.trans he3
  dsimp only
  refine splitW_i (fun hq => ?_) (fun hq => ?_)
  · have hq := bne_iff_ne.1 hq
    exact setS (s := sup0) (x := (none, 0, 0)) hb1 rfl rfl fun w' _ hx _ _ => getRet_0 (getS_e hq) (hx w he3 (by omega))
  have hk0 := bne_eq_false_iff_eq.1 hq
  have hgen : (kindR (B s) 1).1.2.1 < 18446744073709551616 := by
    unfold kindR
    split
    · decide
    · exact getR_gen (B s)
  have hdata : (B (kindR (B s) 1).1.2.2).length ≤ 4096 := by
    have hg0 : (getR (B s)).2 = 0 := by
      unfold kindR at hk0
      split at hk0
      · cases hk0
      · exact hk0
    obtain ⟨_, _, _, q4, _⟩ := putR_ok (by rw [(getR_ok hg0).2])
    unfold kindR
    split
    · decide
    · rw [(getR_ok hg0).1]; omega
  have hsh := getS_short hk0
  have hgd := getS_dec hk0
  generalize hfk : (kindR (B s) 1).1 = f at *
  have hds := B_size f.2.2
  refine boxF 2 f.2.2 hb3 (by rfl) ?_
  refine splitW_i (fun hq => ?_) (fun hq => ?_)
  · have hq := of_decide_eq_true hq
    exact setS (s := sup0) (x := (none, 0, 0)) hb1 rfl rfl fun w' _ hx _ _ => getRet_0 (hsh (by omega)) (hx w he3 (by omega))
  have hq := of_decide_eq_false hq
  have hgd := hgd (by omega)
  refine boxF 2 f.2.2 hb3 (by rfl) ?_
  refine conv_bytes (u := .string) (e := 5) (by kernel_rfl) (by kernel_rfl) (by kernel_rfl) (by omega) ?_
  intro c w4 hsl he4 hs4 hc4
  rw [hds] at hsl hc4
  have hb1 := hb1.ext he4
  have hb3 := hb3.ext he4
  have he4 := he3.trans he4
  refine draw_i fun w4 he4' hz4 _ => ?_
  have hsl := hsl.ext he4'
  have hb1 := hb1.ext he4'
  have hb3 := hb3.ext he4'
  have he4 := he4.trans he4'
  generalize hA : (some (⟨w3.heap.size, 0, none⟩ : Addr)) = A at hsl ⊢
  rw [hds]
  refine boxF 1 (f.2.1 : Int) hb3 (by rfl) (guard_i ⟨by omega, by dsimp only; omega⟩ (guard_i ⟨by omega, by omega, by dsimp only; omega⟩ (guard_i ⟨by omega, by omega, by dsimp only; omega⟩ ?_)))
  have hsl4 := hsl
  have hb14 := hb1
  have hr1lt := hb1.lt
  have q0 := hsl.cut0 (k := 4) (m := c) (by omega) (by omega)
  have q1 := hsl.cut (l := 4) (k := 4) (m := c) (by omega) (by omega)
  have q2 := hsl.cut (l := 8) (k := 4) (m := c) (by omega) (by omega)
  rw [bV_take] at q0
  rw [bV_drop, bV_take] at q1 q2
  have l0 : lev ((B f.2.2).take 4) < 4294967296 := lev_lt4 (by rw [List.length_take]; omega)
  have l1 : lev (((B f.2.2).drop 4).take 4) < 4294967296 := lev_lt4 (by rw [List.length_take]; omega)
  have l2 : lev (((B f.2.2).drop 8).take 4) < 4294967296 := lev_lt4 (by rw [List.length_take]; omega)
  dsimp only
  have of0 : ∀ {w' : World}, Ext w4 w' → Calls Tryz.prog 88 #[.slice (cutAddr A 0 c 1) 4 c] w' (Ret fun v w'' => v = .int .u64 (lev ((B f.2.2).take 4) : Int) ∧ w'' = w') := fun he => refof_calls (q0.ext he) (by omega)
  have of1 : ∀ {w' : World}, Ext w4 w' → Calls Tryz.prog 88 #[.slice (cutAddr A 4 c 1) 4 (c - 4)] w' (Ret fun v w'' => v = .int .u64 (lev (((B f.2.2).drop 4).take 4) : Int) ∧ w'' = w') := fun he => refof_calls (q1.ext he) (by omega)
  have of2 : ∀ {w' : World}, Ext w4 w' → Calls Tryz.prog 88 #[.slice (cutAddr A 8 c 1) 4 (c - 8)] w' (Ret fun v w'' => v = .int .u64 (lev (((B f.2.2).drop 8).take 4) : Int) ∧ w'' = w') := fun he => refof_calls (q2.ext he) (by omega)
  generalize ha0 : lev ((B f.2.2).take 4) = a0 at of0 l0
  generalize ha1 : lev (((B f.2.2).drop 4).take 4) = a1 at of1 l1
  generalize ha2 : lev (((B f.2.2).drop 8).take 4) = a2 at of2 l2
  refine ⟨?_, ?_⟩
  · refine callW_of (of0 (Ext.refl w4)) ?_
    rintro _ w4 ⟨rfl, hw⟩
    subst hw
    refine ⟨_, rfl, heldF hb3 (by rfl) ?_⟩
    refine ⟨?_, ?_⟩
    · refine callW_of (of1 (Ext.refl w4)) ?_
      rintro _ w4 ⟨rfl, hw⟩
      subst hw
      refine ⟨_, rfl, heldF hb3 (by rfl) ?_⟩
      refine ⟨?_, ?_⟩
      · refine callW_of (of2 (Ext.refl w4)) ?_
        rintro _ w4 ⟨rfl, hw⟩
        subst hw
        refine ⟨_, rfl, heldF hb3 (by rfl) ?_⟩
        refine new_i fun r wx hr hex hrr _ => ?_
        have hr : Blk wx r (sV sup0 (none, 0, 0)) 79 := hr
        have hrr : w4.heap.size ≤ r := by omega
        refine heldF (hb3.ext hex) (by rfl) ?_
        rw [wrap_i64 (x := (a0 : Int)) (by omega) (by omega), wrap_i64 (x := (a1 : Int)) (by omega) (by omega), wrap_u32_nat l2]
        refine refill (vs := sV ⟨f.2.1, a0, a1, a2, []⟩ (none, 0, 0)) hr rfl (sV_one _ _) rfl ?_
        intro w9 hb9 hx9 hk9 hz9
        have he9 : Ext w4 w9 := hx9 w4 hex hrr
        have hrlt := hb9.lt
        refine loopW_i (fun y w' => ∃ (i : Nat) (x : SLC), 14 + 4 * i ≤ (B f.2.2).length ∧ y = (((14 + 4 * i : Nat) : Int), ()) ∧ Ext w4 w' ∧ w9.heap.size ≤ w'.heap.size ∧ Blk w' r (sV ⟨f.2.1, a0, a1, a2, wordsOf i ((B f.2.2).drop 14)⟩ x) 79 ∧ Owni (numE .u32) 31 w' w9.heap.size x.1 x.2.1 x.2.2 (wordsOf i ((B f.2.2).drop 14))) (fun y => ((B f.2.2).length - y.1).toNat) ⟨0, (none, 0, 0), by omega, rfl, he9, Nat.le_refl _, hb9, Owni.nil _ _ _⟩ ?_
        rintro _ w10 ⟨i, x, hi, rfl, he10, hz10, hb10, ho10⟩
        dsimp only
        have hlx := ho10.len
        rw [wordsOf_length] at hlx
        have ew : IntKind.wrap .i64 (((14 + 4 * i : Nat) : Int) + 4) = ((14 + 4 * (i + 1) : Nat) : Int) := by rw [wrap_i64 (by omega) (by omega)]; omega
        rw [ew]
        by_cases hlt : 14 + 4 * (i + 1) ≤ (B f.2.2).length
        · refine splitW_t (decide_eq_true (by omega)) ?_
          refine draw_i fun w11 he11 _ _ => ?_
          have hb11 := hb10.ext he11
          have ho11 := ho10.ext he11
          have hz11 := he11.size
          have he11 := he10.trans he11
          refine boxF 4 x hb11 (by rfl) (guard_i ⟨by omega, by omega, by omega⟩ ?_)
          rw [Int.toNat_natCast, Int.toNat_natCast, show 14 + 4 * (i + 1) - (14 + 4 * i) = 4 by omega]
          have hcut := (hsl4.ext he11).cut (l := 14 + 4 * i) (k := 4) (m := c) (by omega) (by omega)
          rw [bV_drop, bV_take, ← List.drop_drop] at hcut
          refine callW_of (refof_calls (c := c - (14 + 4 * i)) hcut (by omega)) ?_
          rintro _ w11 ⟨rfl, hw⟩
          subst hw
          refine ⟨_, rfl, ?_⟩
          refine heldF hb11 (by rfl) ?_
          have hv := lev_lt4 (bs := (((B f.2.2).drop 14).drop (4 * i)).take 4) (by rw [List.length_take]; omega)
          rw [wrap_u32_nat hv]
          refine new_i fun r18 w12 hb18 he12 hr18 hz12 => ?_
          have hb18 : Blk w12 r18 ((numE .u32).flat [lev ((((B f.2.2).drop 14).drop (4 * i)).take 4)]) 31 := hb18
          have hs18 : Sli (numE .u32) w12 (some ⟨r18, 0, none⟩) 1 [lev ((((B f.2.2).drop 14).drop (4 * i)).take 4)] := Sli.of_blk hb18 rfl (by omega)
          have hb12 := hb11.ext he12
          have ho12 := ho11.ext he12
          refine heldF hb12 (by rfl) ?_
          refine append_sli elem_u32 ho12 (by omega) hs18 (by omega) (by omega) ?_
          intro A13 c13 w13 ho13 hg13 _
          have hb13 := hb12.grown hg13.grown (fun e => by have := ho12.row r e.symm; omega)
          have he13 : Ext w4 w13 := (he11.trans he12).grown hg13.grown (fun j hj => by have := ho12.row j hj; have := he9.size; omega)
          rw [add_mk]
          refine stW_blk hb13 (by show 0 + 4 < 5; omega) ?_
          have hg14 := set_grown w13 r (0 + 4) (.slice A13 (x.2.1 + 1) c13)
          have hb14 := hb13.set (0 + 4) (.slice A13 (x.2.1 + 1) c13)
          rw [← wordsOf_succ] at ho13
          refine ⟨⟨i + 1, (A13, x.2.1 + 1, c13), by omega, rfl, he13.grown hg14 (fun j hj => by injection hj with hj; omega), ?_, hb14, ho13.grown hg14 (fun j hj e => by injection hj with hj; have := ho13.row j e; omega)⟩, by omega⟩
          exact Nat.le_trans (Nat.le_trans (Nat.le_trans hz10 hz11) (by omega)) (Nat.le_trans hg13.grown.size hg14.size)
        refine splitW_f (decide_eq_false (by omega)) ?_
        have ei : i = ((B f.2.2).length - 14) / 4 := by omega
        have hs1 : (⟨f.2.1, a0, a1, a2, wordsOf i ((B f.2.2).drop 14)⟩ : Sup) = decS f := by rw [ei, ← ha0, ← ha1, ← ha2]; rfl
        have hfit : (decS f).Fits := decS_fits hgen
        have hpg : Pg w10 x (decS f).pages := ⟨by rw [← hs1]; exact ho10.sl, ho10.le.1⟩
        rw [hs1] at hb10
        refine boxA (ls := sLs) (sT (decS f) x) hb10 rfl ?_
        refine callW_of (rsput_calls hfit hpg) ?_
        rintro _ w11 ⟨rfl, he11⟩
        refine ⟨(⟨(putS (decS f)).1.toArray⟩, (putS (decS f)).2, ()), rfl, ?_⟩
        dsimp only
        have hb11 := hb10.ext he11
        have hpg11 := hpg.ext he11
        have ho11 := ho10.ext he11
        have he11' : Ext w4 w11 := he10.trans he11
        have hb1' := hb14.ext he11'
        have hew : Ext w w11 := he4.trans he11'
        have no : putS (decS f) ≠ (B s, 0) → getS (B s) = (sup0, 4) := fun h => by rw [hgd, if_neg h]
        refine splitW_i (fun hz => ?_) (fun hz => ?_)
        · exact setS (s := sup0) (x := (none, 0, 0)) hb1' rfl rfl fun w'' _ hx _ _ => getRet_0 (no (fun e => bne_iff_ne.1 hz (by rw [e]))) (hx w hew (by omega))
        have hz := bne_eq_false_iff_eq.1 hz
        rw [str_beq, B_mk]
        refine splitW_i (fun hz2 => ?_) (fun hz2 => ?_)
        · exact setS (s := sup0) (x := (none, 0, 0)) hb1' rfl rfl fun w'' _ hx _ _ => getRet_0 (no (fun e => by rw [e] at hz2; simp at hz2)) (hx w hew (by omega))
        have hz2 : (putS (decS f)).1 = B s := by simpa using hz2
        have hgs : getS (B s) = (decS f, 0) := by rw [hgd, if_pos (Prod.ext hz2 hz)]
        refine boxA (ls := sLs) (sT (decS f) x) hb11 rfl (setS (s := decS f) (x := x) hb1' rfl rfl fun w' _ hx hk hz => ⟨x, by rw [hgs]; rfl, ?_, hx w hew (by omega), fun a ha => by have := ho10.row a.block (by rw [ha]; rfl); have := he9.size; have := he4.size; omega⟩)
        rw [hgs]
        have ho' := ho11.grown (grown_of_set hew (hx w hew (by omega)) hk hz) (fun j hj e => by injection hj with hj; have := ho11.row j e; omega)
        exact ⟨by rw [← hs1]; exact ho'.sl, hpg11.nc⟩
      · refine new_i fun r wx hr hex hrr _ => ?_
        have hr : Blk wx r (sV sup0 (none, 0, 0)) 79 := hr
        have hrr : w4.heap.size ≤ r := by omega
        refine heldF (hb3.ext hex) (by rfl) ?_
        refine callW_of (of2 (hex)) ?_
        rintro _ wx ⟨rfl, hw⟩
        subst hw
        refine ⟨_, rfl, heldF (hb3.ext hex) (by rfl) ?_⟩
        rw [wrap_i64 (x := (a0 : Int)) (by omega) (by omega), wrap_i64 (x := (a1 : Int)) (by omega) (by omega), wrap_u32_nat l2]
        refine refill (vs := sV ⟨f.2.1, a0, a1, a2, []⟩ (none, 0, 0)) hr rfl (sV_one _ _) rfl ?_
        intro w9 hb9 hx9 hk9 hz9
        have he9 : Ext w4 w9 := hx9 w4 hex hrr
        have hrlt := hb9.lt
        refine loopW_i (fun y w' => ∃ (i : Nat) (x : SLC), 14 + 4 * i ≤ (B f.2.2).length ∧ y = (((14 + 4 * i : Nat) : Int), ()) ∧ Ext w4 w' ∧ w9.heap.size ≤ w'.heap.size ∧ Blk w' r (sV ⟨f.2.1, a0, a1, a2, wordsOf i ((B f.2.2).drop 14)⟩ x) 79 ∧ Owni (numE .u32) 31 w' w9.heap.size x.1 x.2.1 x.2.2 (wordsOf i ((B f.2.2).drop 14))) (fun y => ((B f.2.2).length - y.1).toNat) ⟨0, (none, 0, 0), by omega, rfl, he9, Nat.le_refl _, hb9, Owni.nil _ _ _⟩ ?_
        rintro _ w10 ⟨i, x, hi, rfl, he10, hz10, hb10, ho10⟩
        dsimp only
        have hlx := ho10.len
        rw [wordsOf_length] at hlx
        have ew : IntKind.wrap .i64 (((14 + 4 * i : Nat) : Int) + 4) = ((14 + 4 * (i + 1) : Nat) : Int) := by rw [wrap_i64 (by omega) (by omega)]; omega
        rw [ew]
        by_cases hlt : 14 + 4 * (i + 1) ≤ (B f.2.2).length
        · refine splitW_t (decide_eq_true (by omega)) ?_
          refine draw_i fun w11 he11 _ _ => ?_
          have hb11 := hb10.ext he11
          have ho11 := ho10.ext he11
          have hz11 := he11.size
          have he11 := he10.trans he11
          refine boxF 4 x hb11 (by rfl) (guard_i ⟨by omega, by omega, by omega⟩ ?_)
          rw [Int.toNat_natCast, Int.toNat_natCast, show 14 + 4 * (i + 1) - (14 + 4 * i) = 4 by omega]
          have hcut := (hsl4.ext he11).cut (l := 14 + 4 * i) (k := 4) (m := c) (by omega) (by omega)
          rw [bV_drop, bV_take, ← List.drop_drop] at hcut
          refine callW_of (refof_calls (c := c - (14 + 4 * i)) hcut (by omega)) ?_
          rintro _ w11 ⟨rfl, hw⟩
          subst hw
          refine ⟨_, rfl, ?_⟩
          refine heldF hb11 (by rfl) ?_
          have hv := lev_lt4 (bs := (((B f.2.2).drop 14).drop (4 * i)).take 4) (by rw [List.length_take]; omega)
          rw [wrap_u32_nat hv]
          refine new_i fun r18 w12 hb18 he12 hr18 hz12 => ?_
          have hb18 : Blk w12 r18 ((numE .u32).flat [lev ((((B f.2.2).drop 14).drop (4 * i)).take 4)]) 31 := hb18
          have hs18 : Sli (numE .u32) w12 (some ⟨r18, 0, none⟩) 1 [lev ((((B f.2.2).drop 14).drop (4 * i)).take 4)] := Sli.of_blk hb18 rfl (by omega)
          have hb12 := hb11.ext he12
          have ho12 := ho11.ext he12
          refine heldF hb12 (by rfl) ?_
          refine append_sli elem_u32 ho12 (by omega) hs18 (by omega) (by omega) ?_
          intro A13 c13 w13 ho13 hg13 _
          have hb13 := hb12.grown hg13.grown (fun e => by have := ho12.row r e.symm; omega)
          have he13 : Ext w4 w13 := (he11.trans he12).grown hg13.grown (fun j hj => by have := ho12.row j hj; have := he9.size; omega)
          rw [add_mk]
          refine stW_blk hb13 (by show 0 + 4 < 5; omega) ?_
          have hg14 := set_grown w13 r (0 + 4) (.slice A13 (x.2.1 + 1) c13)
          have hb14 := hb13.set (0 + 4) (.slice A13 (x.2.1 + 1) c13)
          rw [← wordsOf_succ] at ho13
          refine ⟨⟨i + 1, (A13, x.2.1 + 1, c13), by omega, rfl, he13.grown hg14 (fun j hj => by injection hj with hj; omega), ?_, hb14, ho13.grown hg14 (fun j hj e => by injection hj with hj; have := ho13.row j e; omega)⟩, by omega⟩
          exact Nat.le_trans (Nat.le_trans (Nat.le_trans hz10 hz11) (by omega)) (Nat.le_trans hg13.grown.size hg14.size)
        refine splitW_f (decide_eq_false (by omega)) ?_
        have ei : i = ((B f.2.2).length - 14) / 4 := by omega
        have hs1 : (⟨f.2.1, a0, a1, a2, wordsOf i ((B f.2.2).drop 14)⟩ : Sup) = decS f := by rw [ei, ← ha0, ← ha1, ← ha2]; rfl
        have hfit : (decS f).Fits := decS_fits hgen
        have hpg : Pg w10 x (decS f).pages := ⟨by rw [← hs1]; exact ho10.sl, ho10.le.1⟩
        rw [hs1] at hb10
        refine boxA (ls := sLs) (sT (decS f) x) hb10 rfl ?_
        refine callW_of (rsput_calls hfit hpg) ?_
        rintro _ w11 ⟨rfl, he11⟩
        refine ⟨(⟨(putS (decS f)).1.toArray⟩, (putS (decS f)).2, ()), rfl, ?_⟩
        dsimp only
        have hb11 := hb10.ext he11
        have hpg11 := hpg.ext he11
        have ho11 := ho10.ext he11
        have he11' : Ext w4 w11 := he10.trans he11
        have hb1' := hb14.ext he11'
        have hew : Ext w w11 := he4.trans he11'
        have no : putS (decS f) ≠ (B s, 0) → getS (B s) = (sup0, 4) := fun h => by rw [hgd, if_neg h]
        refine splitW_i (fun hz => ?_) (fun hz => ?_)
        · exact setS (s := sup0) (x := (none, 0, 0)) hb1' rfl rfl fun w'' _ hx _ _ => getRet_0 (no (fun e => bne_iff_ne.1 hz (by rw [e]))) (hx w hew (by omega))
        have hz := bne_eq_false_iff_eq.1 hz
        rw [str_beq, B_mk]
        refine splitW_i (fun hz2 => ?_) (fun hz2 => ?_)
        · exact setS (s := sup0) (x := (none, 0, 0)) hb1' rfl rfl fun w'' _ hx _ _ => getRet_0 (no (fun e => by rw [e] at hz2; simp at hz2)) (hx w hew (by omega))
        have hz2 : (putS (decS f)).1 = B s := by simpa using hz2
        have hgs : getS (B s) = (decS f, 0) := by rw [hgd, if_pos (Prod.ext hz2 hz)]
        refine boxA (ls := sLs) (sT (decS f) x) hb11 rfl (setS (s := decS f) (x := x) hb1' rfl rfl fun w' _ hx hk hz => ⟨x, by rw [hgs]; rfl, ?_, hx w hew (by omega), fun a ha => by have := ho10.row a.block (by rw [ha]; rfl); have := he9.size; have := he4.size; omega⟩)
        rw [hgs]
        have ho' := ho11.grown (grown_of_set hew (hx w hew (by omega)) hk hz) (fun j hj e => by injection hj with hj; have := ho11.row j e; omega)
        exact ⟨by rw [← hs1]; exact ho'.sl, hpg11.nc⟩
    · refine new_i fun r wx hr hex hrr _ => ?_
      have hr : Blk wx r (sV sup0 (none, 0, 0)) 79 := hr
      have hrr : w4.heap.size ≤ r := by omega
      refine heldF (hb3.ext hex) (by rfl) ?_
      refine callW_of (of1 (hex)) ?_
      rintro _ wx ⟨rfl, hw⟩
      subst hw
      refine ⟨_, rfl, heldF (hb3.ext hex) (by rfl) ?_⟩
      refine callW_of (of2 (hex)) ?_
      rintro _ wx ⟨rfl, hw⟩
      subst hw
      refine ⟨_, rfl, heldF (hb3.ext hex) (by rfl) ?_⟩
      rw [wrap_i64 (x := (a0 : Int)) (by omega) (by omega), wrap_i64 (x := (a1 : Int)) (by omega) (by omega), wrap_u32_nat l2]
      refine refill (vs := sV ⟨f.2.1, a0, a1, a2, []⟩ (none, 0, 0)) hr rfl (sV_one _ _) rfl ?_
      intro w9 hb9 hx9 hk9 hz9
      have he9 : Ext w4 w9 := hx9 w4 hex hrr
      have hrlt := hb9.lt
      refine loopW_i (fun y w' => ∃ (i : Nat) (x : SLC), 14 + 4 * i ≤ (B f.2.2).length ∧ y = (((14 + 4 * i : Nat) : Int), ()) ∧ Ext w4 w' ∧ w9.heap.size ≤ w'.heap.size ∧ Blk w' r (sV ⟨f.2.1, a0, a1, a2, wordsOf i ((B f.2.2).drop 14)⟩ x) 79 ∧ Owni (numE .u32) 31 w' w9.heap.size x.1 x.2.1 x.2.2 (wordsOf i ((B f.2.2).drop 14))) (fun y => ((B f.2.2).length - y.1).toNat) ⟨0, (none, 0, 0), by omega, rfl, he9, Nat.le_refl _, hb9, Owni.nil _ _ _⟩ ?_
      rintro _ w10 ⟨i, x, hi, rfl, he10, hz10, hb10, ho10⟩
      dsimp only
      have hlx := ho10.len
      rw [wordsOf_length] at hlx
      have ew : IntKind.wrap .i64 (((14 + 4 * i : Nat) : Int) + 4) = ((14 + 4 * (i + 1) : Nat) : Int) := by rw [wrap_i64 (by omega) (by omega)]; omega
      rw [ew]
      by_cases hlt : 14 + 4 * (i + 1) ≤ (B f.2.2).length
      · refine splitW_t (decide_eq_true (by omega)) ?_
        refine draw_i fun w11 he11 _ _ => ?_
        have hb11 := hb10.ext he11
        have ho11 := ho10.ext he11
        have hz11 := he11.size
        have he11 := he10.trans he11
        refine boxF 4 x hb11 (by rfl) (guard_i ⟨by omega, by omega, by omega⟩ ?_)
        rw [Int.toNat_natCast, Int.toNat_natCast, show 14 + 4 * (i + 1) - (14 + 4 * i) = 4 by omega]
        have hcut := (hsl4.ext he11).cut (l := 14 + 4 * i) (k := 4) (m := c) (by omega) (by omega)
        rw [bV_drop, bV_take, ← List.drop_drop] at hcut
        refine callW_of (refof_calls (c := c - (14 + 4 * i)) hcut (by omega)) ?_
        rintro _ w11 ⟨rfl, hw⟩
        subst hw
        refine ⟨_, rfl, ?_⟩
        refine heldF hb11 (by rfl) ?_
        have hv := lev_lt4 (bs := (((B f.2.2).drop 14).drop (4 * i)).take 4) (by rw [List.length_take]; omega)
        rw [wrap_u32_nat hv]
        refine new_i fun r18 w12 hb18 he12 hr18 hz12 => ?_
        have hb18 : Blk w12 r18 ((numE .u32).flat [lev ((((B f.2.2).drop 14).drop (4 * i)).take 4)]) 31 := hb18
        have hs18 : Sli (numE .u32) w12 (some ⟨r18, 0, none⟩) 1 [lev ((((B f.2.2).drop 14).drop (4 * i)).take 4)] := Sli.of_blk hb18 rfl (by omega)
        have hb12 := hb11.ext he12
        have ho12 := ho11.ext he12
        refine heldF hb12 (by rfl) ?_
        refine append_sli elem_u32 ho12 (by omega) hs18 (by omega) (by omega) ?_
        intro A13 c13 w13 ho13 hg13 _
        have hb13 := hb12.grown hg13.grown (fun e => by have := ho12.row r e.symm; omega)
        have he13 : Ext w4 w13 := (he11.trans he12).grown hg13.grown (fun j hj => by have := ho12.row j hj; have := he9.size; omega)
        rw [add_mk]
        refine stW_blk hb13 (by show 0 + 4 < 5; omega) ?_
        have hg14 := set_grown w13 r (0 + 4) (.slice A13 (x.2.1 + 1) c13)
        have hb14 := hb13.set (0 + 4) (.slice A13 (x.2.1 + 1) c13)
        rw [← wordsOf_succ] at ho13
        refine ⟨⟨i + 1, (A13, x.2.1 + 1, c13), by omega, rfl, he13.grown hg14 (fun j hj => by injection hj with hj; omega), ?_, hb14, ho13.grown hg14 (fun j hj e => by injection hj with hj; have := ho13.row j e; omega)⟩, by omega⟩
        exact Nat.le_trans (Nat.le_trans (Nat.le_trans hz10 hz11) (by omega)) (Nat.le_trans hg13.grown.size hg14.size)
      refine splitW_f (decide_eq_false (by omega)) ?_
      have ei : i = ((B f.2.2).length - 14) / 4 := by omega
      have hs1 : (⟨f.2.1, a0, a1, a2, wordsOf i ((B f.2.2).drop 14)⟩ : Sup) = decS f := by rw [ei, ← ha0, ← ha1, ← ha2]; rfl
      have hfit : (decS f).Fits := decS_fits hgen
      have hpg : Pg w10 x (decS f).pages := ⟨by rw [← hs1]; exact ho10.sl, ho10.le.1⟩
      rw [hs1] at hb10
      refine boxA (ls := sLs) (sT (decS f) x) hb10 rfl ?_
      refine callW_of (rsput_calls hfit hpg) ?_
      rintro _ w11 ⟨rfl, he11⟩
      refine ⟨(⟨(putS (decS f)).1.toArray⟩, (putS (decS f)).2, ()), rfl, ?_⟩
      dsimp only
      have hb11 := hb10.ext he11
      have hpg11 := hpg.ext he11
      have ho11 := ho10.ext he11
      have he11' : Ext w4 w11 := he10.trans he11
      have hb1' := hb14.ext he11'
      have hew : Ext w w11 := he4.trans he11'
      have no : putS (decS f) ≠ (B s, 0) → getS (B s) = (sup0, 4) := fun h => by rw [hgd, if_neg h]
      refine splitW_i (fun hz => ?_) (fun hz => ?_)
      · exact setS (s := sup0) (x := (none, 0, 0)) hb1' rfl rfl fun w'' _ hx _ _ => getRet_0 (no (fun e => bne_iff_ne.1 hz (by rw [e]))) (hx w hew (by omega))
      have hz := bne_eq_false_iff_eq.1 hz
      rw [str_beq, B_mk]
      refine splitW_i (fun hz2 => ?_) (fun hz2 => ?_)
      · exact setS (s := sup0) (x := (none, 0, 0)) hb1' rfl rfl fun w'' _ hx _ _ => getRet_0 (no (fun e => by rw [e] at hz2; simp at hz2)) (hx w hew (by omega))
      have hz2 : (putS (decS f)).1 = B s := by simpa using hz2
      have hgs : getS (B s) = (decS f, 0) := by rw [hgd, if_pos (Prod.ext hz2 hz)]
      refine boxA (ls := sLs) (sT (decS f) x) hb11 rfl (setS (s := decS f) (x := x) hb1' rfl rfl fun w' _ hx hk hz => ⟨x, by rw [hgs]; rfl, ?_, hx w hew (by omega), fun a ha => by have := ho10.row a.block (by rw [ha]; rfl); have := he9.size; have := he4.size; omega⟩)
      rw [hgs]
      have ho' := ho11.grown (grown_of_set hew (hx w hew (by omega)) hk hz) (fun j hj e => by injection hj with hj; have := ho11.row j e; omega)
      exact ⟨by rw [← hs1]; exact ho'.sl, hpg11.nc⟩
  · refine new_i fun r wx hr hex hrr _ => ?_
    have hr : Blk wx r (sV sup0 (none, 0, 0)) 79 := hr
    have hrr : w4.heap.size ≤ r := by omega
    refine heldF (hb3.ext hex) (by rfl) ?_
    refine callW_of (of0 (hex)) ?_
    rintro _ wx ⟨rfl, hw⟩
    subst hw
    refine ⟨_, rfl, heldF (hb3.ext hex) (by rfl) ?_⟩
    refine callW_of (of1 (hex)) ?_
    rintro _ wx ⟨rfl, hw⟩
    subst hw
    refine ⟨_, rfl, heldF (hb3.ext hex) (by rfl) ?_⟩
    refine callW_of (of2 (hex)) ?_
    rintro _ wx ⟨rfl, hw⟩
    subst hw
    refine ⟨_, rfl, heldF (hb3.ext hex) (by rfl) ?_⟩
    rw [wrap_i64 (x := (a0 : Int)) (by omega) (by omega), wrap_i64 (x := (a1 : Int)) (by omega) (by omega), wrap_u32_nat l2]
    refine refill (vs := sV ⟨f.2.1, a0, a1, a2, []⟩ (none, 0, 0)) hr rfl (sV_one _ _) rfl ?_
    intro w9 hb9 hx9 hk9 hz9
    have he9 : Ext w4 w9 := hx9 w4 hex hrr
    have hrlt := hb9.lt
    refine loopW_i (fun y w' => ∃ (i : Nat) (x : SLC), 14 + 4 * i ≤ (B f.2.2).length ∧ y = (((14 + 4 * i : Nat) : Int), ()) ∧ Ext w4 w' ∧ w9.heap.size ≤ w'.heap.size ∧ Blk w' r (sV ⟨f.2.1, a0, a1, a2, wordsOf i ((B f.2.2).drop 14)⟩ x) 79 ∧ Owni (numE .u32) 31 w' w9.heap.size x.1 x.2.1 x.2.2 (wordsOf i ((B f.2.2).drop 14))) (fun y => ((B f.2.2).length - y.1).toNat) ⟨0, (none, 0, 0), by omega, rfl, he9, Nat.le_refl _, hb9, Owni.nil _ _ _⟩ ?_
    rintro _ w10 ⟨i, x, hi, rfl, he10, hz10, hb10, ho10⟩
    dsimp only
    have hlx := ho10.len
    rw [wordsOf_length] at hlx
    have ew : IntKind.wrap .i64 (((14 + 4 * i : Nat) : Int) + 4) = ((14 + 4 * (i + 1) : Nat) : Int) := by rw [wrap_i64 (by omega) (by omega)]; omega
    rw [ew]
    by_cases hlt : 14 + 4 * (i + 1) ≤ (B f.2.2).length
    · refine splitW_t (decide_eq_true (by omega)) ?_
      refine draw_i fun w11 he11 _ _ => ?_
      have hb11 := hb10.ext he11
      have ho11 := ho10.ext he11
      have hz11 := he11.size
      have he11 := he10.trans he11
      refine boxF 4 x hb11 (by rfl) (guard_i ⟨by omega, by omega, by omega⟩ ?_)
      rw [Int.toNat_natCast, Int.toNat_natCast, show 14 + 4 * (i + 1) - (14 + 4 * i) = 4 by omega]
      have hcut := (hsl4.ext he11).cut (l := 14 + 4 * i) (k := 4) (m := c) (by omega) (by omega)
      rw [bV_drop, bV_take, ← List.drop_drop] at hcut
      refine callW_of (refof_calls (c := c - (14 + 4 * i)) hcut (by omega)) ?_
      rintro _ w11 ⟨rfl, hw⟩
      subst hw
      refine ⟨_, rfl, ?_⟩
      refine heldF hb11 (by rfl) ?_
      have hv := lev_lt4 (bs := (((B f.2.2).drop 14).drop (4 * i)).take 4) (by rw [List.length_take]; omega)
      rw [wrap_u32_nat hv]
      refine new_i fun r18 w12 hb18 he12 hr18 hz12 => ?_
      have hb18 : Blk w12 r18 ((numE .u32).flat [lev ((((B f.2.2).drop 14).drop (4 * i)).take 4)]) 31 := hb18
      have hs18 : Sli (numE .u32) w12 (some ⟨r18, 0, none⟩) 1 [lev ((((B f.2.2).drop 14).drop (4 * i)).take 4)] := Sli.of_blk hb18 rfl (by omega)
      have hb12 := hb11.ext he12
      have ho12 := ho11.ext he12
      refine heldF hb12 (by rfl) ?_
      refine append_sli elem_u32 ho12 (by omega) hs18 (by omega) (by omega) ?_
      intro A13 c13 w13 ho13 hg13 _
      have hb13 := hb12.grown hg13.grown (fun e => by have := ho12.row r e.symm; omega)
      have he13 : Ext w4 w13 := (he11.trans he12).grown hg13.grown (fun j hj => by have := ho12.row j hj; have := he9.size; omega)
      rw [add_mk]
      refine stW_blk hb13 (by show 0 + 4 < 5; omega) ?_
      have hg14 := set_grown w13 r (0 + 4) (.slice A13 (x.2.1 + 1) c13)
      have hb14 := hb13.set (0 + 4) (.slice A13 (x.2.1 + 1) c13)
      rw [← wordsOf_succ] at ho13
      refine ⟨⟨i + 1, (A13, x.2.1 + 1, c13), by omega, rfl, he13.grown hg14 (fun j hj => by injection hj with hj; omega), ?_, hb14, ho13.grown hg14 (fun j hj e => by injection hj with hj; have := ho13.row j e; omega)⟩, by omega⟩
      exact Nat.le_trans (Nat.le_trans (Nat.le_trans hz10 hz11) (by omega)) (Nat.le_trans hg13.grown.size hg14.size)
    refine splitW_f (decide_eq_false (by omega)) ?_
    have ei : i = ((B f.2.2).length - 14) / 4 := by omega
    have hs1 : (⟨f.2.1, a0, a1, a2, wordsOf i ((B f.2.2).drop 14)⟩ : Sup) = decS f := by rw [ei, ← ha0, ← ha1, ← ha2]; rfl
    have hfit : (decS f).Fits := decS_fits hgen
    have hpg : Pg w10 x (decS f).pages := ⟨by rw [← hs1]; exact ho10.sl, ho10.le.1⟩
    rw [hs1] at hb10
    refine boxA (ls := sLs) (sT (decS f) x) hb10 rfl ?_
    refine callW_of (rsput_calls hfit hpg) ?_
    rintro _ w11 ⟨rfl, he11⟩
    refine ⟨(⟨(putS (decS f)).1.toArray⟩, (putS (decS f)).2, ()), rfl, ?_⟩
    dsimp only
    have hb11 := hb10.ext he11
    have hpg11 := hpg.ext he11
    have ho11 := ho10.ext he11
    have he11' : Ext w4 w11 := he10.trans he11
    have hb1' := hb14.ext he11'
    have hew : Ext w w11 := he4.trans he11'
    have no : putS (decS f) ≠ (B s, 0) → getS (B s) = (sup0, 4) := fun h => by rw [hgd, if_neg h]
    refine splitW_i (fun hz => ?_) (fun hz => ?_)
    · exact setS (s := sup0) (x := (none, 0, 0)) hb1' rfl rfl fun w'' _ hx _ _ => getRet_0 (no (fun e => bne_iff_ne.1 hz (by rw [e]))) (hx w hew (by omega))
    have hz := bne_eq_false_iff_eq.1 hz
    rw [str_beq, B_mk]
    refine splitW_i (fun hz2 => ?_) (fun hz2 => ?_)
    · exact setS (s := sup0) (x := (none, 0, 0)) hb1' rfl rfl fun w'' _ hx _ _ => getRet_0 (no (fun e => by rw [e] at hz2; simp at hz2)) (hx w hew (by omega))
    have hz2 : (putS (decS f)).1 = B s := by simpa using hz2
    have hgs : getS (B s) = (decS f, 0) := by rw [hgd, if_pos (Prod.ext hz2 hz)]
    refine boxA (ls := sLs) (sT (decS f) x) hb11 rfl (setS (s := decS f) (x := x) hb1' rfl rfl fun w' _ hx hk hz => ⟨x, by rw [hgs]; rfl, ?_, hx w hew (by omega), fun a ha => by have := ho10.row a.block (by rw [ha]; rfl); have := he9.size; have := he4.size; omega⟩)
    rw [hgs]
    have ho' := ho11.grown (grown_of_set hew (hx w hew (by omega)) hk hz) (fun j hj e => by injection hj with hj; have := ho11.row j e; omega)
    exact ⟨by rw [← hs1]; exact ho'.sl, hpg11.nc⟩
end Go.Proofs.YtjdmggaeagnolaaGreatDoor.V
/- Contracts of the package super and of the document's answer (11): Choose, Other, Same. -/
namespace Go.Proofs.YtjdmggaeagnolaaGreatDoor.V
open Go Go.Proofs Go.RowKit Crc
theorem Sli.grown {α : Type} {E : Enc α} {w w' : World} {A : Option Addr} {n : Nat} {xs : List α} {row : Option Nat} (h : Sli E w A n xs) (hg : w.grownBy w' row) (hr : ∀ a, A = some a → some a.block ≠ row) : Sli E w' A n xs := by
  refine ⟨h.1, h.2.1, fun hn => ?_⟩
  obtain ⟨a, ha, hs, hc⟩ := h.2.2 hn
  refine ⟨a, ha, hs, fun j v hj => hg.cell (hc j v hj) ?_⟩
  have : (a.add j).block = a.block := by unfold Addr.add; split <;> rfl
  rw [this]
  exact hr a ha
theorem Pg.grown {w w' : World} {x : SLC} {ps : List Nat} {row : Option Nat} (h : Pg w x ps) (hg : w.grownBy w' row) (hr : ∀ a, x.1 = some a → some a.block ≠ row) : Pg w' x ps := ⟨h.sl.grown hg hr, h.nc⟩
def geoEq (a b : Int × Int) : Bool := (a.1 == b.1) && ((a.2 == b.2) && true)
theorem fields_geo2 (w : World) (a b : Int × Int) : (Op.eqFields 9999 #[.int .i64 a.1, .int .i64 a.2] #[.int .i64 b.1, .int .i64 b.2] (Tryz.prog.fieldsOf 23).toList).run Tryz.prog w = .ok (geoEq a b) w := by
  have hf : (Tryz.prog.fieldsOf 23).toList = [(Tryz.prog.fieldsOf 23).getD 0 default, (Tryz.prog.fieldsOf 23).getD 1 default] := by kernel_rfl
  rw [hf]
  unfold geoEq
  refine eqFields_step (of_decide_eq_true (by kernel_rfl)) (a := .int .i64 a.1) (b := .int .i64 b.1) (by kernel_rfl) (by kernel_rfl) (run_equalIn_int w 9998 _ .i64 .i64 _ _ (by kernel_rfl)) ?_
  refine eqFields_step (of_decide_eq_true (by kernel_rfl)) (a := .int .i64 a.2) (b := .int .i64 b.2) (by kernel_rfl) (by kernel_rfl) (run_equalIn_int w 9998 _ .i64 .i64 _ _ (by kernel_rfl)) ?_
  rfl
theorem neq_geoS (w : World) (a b : Int × Int) (x y : Operand) : (eqS .neq 23 x y (.agg #[.int .i64 a.1, .int .i64 a.2]) (.agg #[.int .i64 b.1, .int .i64 b.2])).run Tryz.prog w = .ok (.bool (!(geoEq a b))) w :=
  eqS_neq (by kernel_rfl) (by kernel_rfl) (by kernel_rfl) (fields_geo2 w a b)
theorem other_calls (w : World) (slot : Int) : Calls Tryz.prog 45 #[.int .i64 slot] w (Ret fun v w' => v = .int .i64 (other slot) ∧ w' = w) := by
  apply calls45
  unfold S45 other
  refine splitW_i (fun h => ?_) (fun h => ?_)
  · rw [if_pos (beq_iff_eq.1 h)]; exact ⟨rfl, rfl⟩
  · rw [if_neg (beq_eq_false_iff_ne.1 h)]; exact ⟨rfl, rfl⟩
def ChoRet (w : World) (a b : List UInt8) (v : Value) (w' : World) : Prop := ∃ x : SLC, v = .tuple #[.int .i64 (chooseS a b).1, .agg (sV (chooseS a b).2.1 x).toArray, .int .i64 (chooseS a b).2.2] ∧ Pg w' x (chooseS a b).2.1.pages ∧ Ext w w' ∧ ∀ c, x.1 = some c → w.heap.size ≤ c.block
def cstepS (c : Int × Sup) (i : Int) (g : Sup × Int) : Int × Sup := if g.2 = 0 ∧ (c.1 < 0 ∨ g.1.gen > c.2.gen) then (i, g.1) else c
def cho (a b : List UInt8) : Nat → Int × Sup
  | 0 => (-1, sup0)
  | 1 => cstepS (-1, sup0) 0 (getS a)
  | _ + 2 => cstepS (cstepS (-1, sup0) 0 (getS a)) 1 (getS b)
theorem cho_end (a b : List UInt8) : chooseS a b = if (cho a b 2).1 < 0 then (-1, sup0, 10) else ((cho a b 2).1, (cho a b 2).2, 0) := by
  have e1 : cstepS (-1, sup0) 0 (getS a) = if (getS a).2 = 0 then (0, (getS a).1) else (-1, sup0) := by
    unfold cstepS
    by_cases h : (getS a).2 = 0
    · rw [if_pos h, if_pos ⟨h, .inl (by omega)⟩]
    · rw [if_neg h, if_neg (fun hh => h hh.1)]
  show chooseS a b = if (cstepS (cstepS (-1, sup0) 0 (getS a)) 1 (getS b)).1 < 0 then (-1, sup0, 10) else ((cstepS (cstepS (-1, sup0) 0 (getS a)) 1 (getS b)).1, (cstepS (cstepS (-1, sup0) 0 (getS a)) 1 (getS b)).2, 0)
  by_cases h : (getS a).2 = 0 <;> by_cases h2 : (getS b).2 = 0
  · rw [if_pos h] at e1
    rw [e1]
    by_cases h3 : (getS b).1.gen > (getS a).1.gen
    · have e2 : cstepS (0, (getS a).1) 1 (getS b) = (1, (getS b).1) := if_pos ⟨h2, .inr h3⟩
      rw [e2]
      unfold chooseS
      rw [if_neg (fun x => x.1 h), if_pos (.inr ⟨h2, h3⟩)]
      rfl
    · have e2 : cstepS (0, (getS a).1) 1 (getS b) = (0, (getS a).1) := if_neg (by rintro ⟨_, x | x⟩; exact absurd x (show ¬ (0 : Int) < 0 by omega); exact h3 x)
      rw [e2]
      unfold chooseS
      rw [if_neg (fun x => x.1 h), if_neg (by rintro (x | x); exact x h; exact h3 x.2)]
      rfl
  · rw [if_pos h] at e1
    rw [e1]
    have e2 : cstepS (0, (getS a).1) 1 (getS b) = (0, (getS a).1) := if_neg (fun x => h2 x.1)
    rw [e2]
    unfold chooseS
    rw [if_neg (fun x => x.1 h), if_neg (by rintro (x | x); exact x h; exact h2 x.1)]
    rfl
  · rw [if_neg h] at e1
    rw [e1]
    have e2 : cstepS (-1, sup0) 1 (getS b) = (1, (getS b).1) := if_pos ⟨h2, .inl (by decide)⟩
    rw [e2]
    unfold chooseS
    rw [if_neg (fun x => x.2 h2), if_pos (.inl h)]
    rfl
  · rw [if_neg h] at e1
    rw [e1]
    have e2 : cstepS (-1, sup0) 1 (getS b) = (-1, sup0) := if_neg (fun x => h2 x.1)
    rw [e2]
    unfold chooseS
    rw [if_pos ⟨h, h2⟩]
    rfl
theorem cstepS_neg {c : Int × Sup} {i : Int} {g : Sup × Int} (hi : 0 ≤ i) (h : c.1 < 0 → c = (-1, sup0)) : (cstepS c i g).1 < 0 → cstepS c i g = (-1, sup0) := by
  unfold cstepS
  split
  · intro h1; dsimp only at h1; omega
  · exact h
theorem cho_neg (a b : List UInt8) : (cho a b 2).1 < 0 → cho a b 2 = (-1, sup0) :=
  cstepS_neg (by omega) (cstepS_neg (by omega) (fun _ => rfl))
theorem choose_calls (w : World) (a b : ByteArray) (ha : a.size ≤ 9223372036854775807) (hb : b.size ≤ 9223372036854775807) : Calls Tryz.prog 34 #[.string a, .string b] w (Ret (ChoRet w (B a) (B b))) := by
  apply calls34
  unfold S34
  refine new_i fun r1 w1 hb1 he1 hr1 _ => ?_
  have hb1 : Blk w1 r1 (sV sup0 (none, 0, 0)) 79 := hb1
  have h1lt := hb1.lt
  refine loopW_i (fun y w' => ∃ (i : Nat) (x : SLC), i ≤ 2 ∧ y = ((cho (B a) (B b) i).1, (i : Int), ()) ∧ Ext w w' ∧ w1.heap.size ≤ w'.heap.size ∧ Blk w' r1 (sV (cho (B a) (B b) i).2 x) 79 ∧ Pg w' x (cho (B a) (B b) i).2.pages ∧ ∀ c, x.1 = some c → w1.heap.size ≤ c.block) (fun y => (2 - y.2.1).toNat)
    ⟨0, (none, 0, 0), by omega, rfl, he1, Nat.le_refl _, hb1, Pg.nil _, fun c hc => by cases hc⟩ ?_
  rintro _ w2 ⟨i, x, hi, rfl, he2, hz2, hb2, hp2, hx2⟩
  dsimp only
  by_cases hlt : i < 2
  · refine splitW_t (decide_eq_true (by omega)) (guard_i ⟨by omega, by omega, rfl⟩ ?_)
    have hstr : ∃ g : ByteArray, ((#[(.string a), (.string b)] : Array Value).getD (Int.toNat (i : Int)) undef) = .string g ∧ g.size ≤ 9223372036854775807 ∧ cho (B a) (B b) (i + 1) = cstepS (cho (B a) (B b) i) (i : Int) (getS (B g)) := by
      match i, hlt with
      | 0, _ => exact ⟨a, rfl, ha, rfl⟩
      | 1, _ => exact ⟨b, rfl, hb, rfl⟩
    obtain ⟨g, hg, hgs, hstep⟩ := hstr
    rw [hg]
    refine callW_of (sget_calls w2 g hgs) ?_
    rintro _ w3 ⟨y, rfl, hp3, he3, hy3⟩
    refine ⟨(sT (getS (B g)).1 y, (getS (B g)).2, ()), rfl, ?_⟩
    dsimp only
    refine boxedS (s := (getS (B g)).1) (x := y) rfl ?_
    intro r5 w4 hb5 he4 hr5
    have he24 := he3.trans he4
    have hb4 := hb2.ext he24
    have hp4 := hp2.ext he24
    have hpy := hp3.ext he4
    have hew := he2.trans he24
    have hz4 : w1.heap.size ≤ w4.heap.size := Nat.le_trans hz2 he24.size
    have next : IntKind.wrap .i64 ((i : Int) + 1) = ((i + 1 : Nat) : Int) := by rw [wrap_i64 (by omega) (by omega)]; omega
    have keep : ¬ ((getS (B g)).2 = 0 ∧ ((cho (B a) (B b) i).1 < 0 ∨ (getS (B g)).1.gen > (cho (B a) (B b) i).2.gen)) → cho (B a) (B b) (i + 1) = cho (B a) (B b) i := fun h => by rw [hstep, cstepS, if_neg h]
    have take : ((getS (B g)).2 = 0 ∧ ((cho (B a) (B b) i).1 < 0 ∨ (getS (B g)).1.gen > (cho (B a) (B b) i).2.gen)) → cho (B a) (B b) (i + 1) = ((i : Int), (getS (B g)).1) := fun h => by rw [hstep, cstepS, if_pos h]
    rw [next]
    have hstay : ∀ {w' : World}, Ext w4 w' → cho (B a) (B b) (i + 1) = cho (B a) (B b) i → ((∃ (k : Nat) (z : SLC), k ≤ 2 ∧ ((cho (B a) (B b) i).1, ((i + 1 : Nat) : Int), ()) = ((cho (B a) (B b) k).1, (k : Int), ()) ∧ Ext w w' ∧ w1.heap.size ≤ w'.heap.size ∧ Blk w' r1 (sV (cho (B a) (B b) k).2 z) 79 ∧ Pg w' z (cho (B a) (B b) k).2.pages ∧ ∀ c, z.1 = some c → w1.heap.size ≤ c.block) ∧ (2 - ((i + 1 : Nat) : Int)).toNat < (2 - (i : Int)).toNat) := by
      intro w' he' h
      exact ⟨⟨i + 1, x, by omega, by rw [h], hew.trans he', Nat.le_trans hz4 he'.size, by rw [h]; exact hb4.ext he', by rw [h]; exact hp4.ext he', hx2⟩, by omega⟩
    have htake : ∀ {w' : World}, Ext w4 w' → cho (B a) (B b) (i + 1) = ((i : Int), (getS (B g)).1) →
        (ldAW sLs (⟨r5, 0, none⟩ : Addr) fun (u : Int × Int × Int × Int × SLC × Unit) => guardW ((#[(.int .u64 u.1), (.int .i64 u.2.1), (.int .i64 u.2.2.1), (.int .u32 u.2.2.2.1), (.slice u.2.2.2.2.1.1 u.2.2.2.2.1.2.1 u.2.2.2.2.1.2.2)] : Array Value).size = 5) <| stAW (⟨r1, 0, none⟩ : Addr) [(.int .u64 u.1), (.int .i64 u.2.1), (.int .i64 u.2.2.1), (.int .u32 u.2.2.2.1), (.slice u.2.2.2.2.1.1 u.2.2.2.2.1.2.1 u.2.2.2.2.1.2.2)] fun w' =>
          ((∃ (k : Nat) (z : SLC), k ≤ 2 ∧ ((i : Int), ((i + 1 : Nat) : Int), ()) = ((cho (B a) (B b) k).1, (k : Int), ()) ∧ Ext w w' ∧ w1.heap.size ≤ w'.heap.size ∧ Blk w' r1 (sV (cho (B a) (B b) k).2 z) 79 ∧ Pg w' z (cho (B a) (B b) k).2.pages ∧ ∀ c, z.1 = some c → w1.heap.size ≤ c.block) ∧ (2 - ((i + 1 : Nat) : Int)).toNat < (2 - (i : Int)).toNat)) w' := by
      intro w' he' h
      refine boxA (ls := sLs) (sT (getS (B g)).1 y) (hb5.ext he') rfl (refill (vs := sV (getS (B g)).1 y) (hb4.ext he') rfl (sV_one _ _) rfl ?_)
      intro w6 hb6 hx6 hk6 hz6
      have he6 := hx6 w (hew.trans he') (by omega)
      refine ⟨⟨i + 1, y, by omega, by rw [h], he6, ?_, by rw [h]; exact hb6, ?_, fun c hc => Nat.le_trans hz2 (hy3 c hc)⟩, by omega⟩
      · rw [hz6]; exact Nat.le_trans hz4 he'.size
      · rw [h]
        exact (hpy.ext he').grown (grown_of_set (hew.trans he') he6 hk6 hz6) (fun c hc e => by injection e with e; have := hy3 c hc; omega)
    refine splitW_i (fun hz => ?_) (fun hz => ?_)
    · have hz := beq_iff_eq.1 hz
      refine splitW_i (fun hs => ?_) (fun hs => ?_)
      · have hs := of_decide_eq_true hs
        exact draw_i fun w5 he5 _ _ => htake he5 (take ⟨hz, .inl hs⟩)
      · have hs := of_decide_eq_false hs
        refine box0 ((getS (B g)).1.gen : Int) hb5 (by rfl) (box0 ((cho (B a) (B b) i).2.gen : Int) hb4 (by rfl) ?_)
        refine splitW_i (fun hq => ?_) (fun hq => ?_)
        · have hq := of_decide_eq_true hq
          exact draw_i fun w5 he5 _ _ => htake he5 (take ⟨hz, .inr (by omega)⟩)
        · have hq := of_decide_eq_false hq
          exact hstay (Ext.refl _) (keep (by rintro ⟨_, h | h⟩; exact hs h; omega))
    · have hz := beq_eq_false_iff_ne.1 hz
      exact hstay (Ext.refl _) (keep (fun h => hz h.1))
  · obtain rfl : i = 2 := by omega
    refine splitW_f (decide_eq_false (by omega)) ?_
    have hend := cho_end (B a) (B b)
    have hneg := cho_neg (B a) (B b)
    refine splitW_i (fun hs => ?_) (fun hs => ?_)
    · have hs := of_decide_eq_true hs
      rw [if_pos hs] at hend
      refine setS (s := sup0) (x := (none, 0, 0)) hb2 rfl rfl fun w' _ hx _ _ => ⟨(none, 0, 0), by rw [hend]; rfl, by rw [hend]; exact Pg.nil w', hx w he2 (by omega), fun c hc => by cases hc⟩
    · have hs := of_decide_eq_false hs
      rw [if_neg hs] at hend
      refine draw_i fun w3 he3 _ _ => ?_
      have hb3 := hb2.ext he3
      have hp3 := hp2.ext he3
      have he3 := he2.trans he3
      refine boxA (ls := sLs) (sT (cho (B a) (B b) 2).2 x) hb3 rfl (setS (s := (cho (B a) (B b) 2).2) (x := x) hb3 rfl rfl fun w' _ hx hk hz => ⟨x, by rw [hend]; rfl, ?_, hx w he3 (by omega), fun c hc => by have := hx2 c hc; have := he1.size; omega⟩)
      rw [hend]
      exact hp3.grown (grown_of_set he3 (hx w he3 (by omega)) hk hz) (fun c hc e => by injection e with e; have := hx2 c hc; omega)
end Go.Proofs.YtjdmggaeagnolaaGreatDoor.V
/- Spaces in memory. -/
namespace Go.Proofs.YtjdmggaeagnolaaGreatDoor.V
open Go Go.Proofs Go.RowKit Crc
theorem boxE {l : Lf} {w : World} {b : Nat} {a : Addr} {cs : List Value} {t : TypeId} {K : l.T → WP} (o : Nat) (x : l.T) (h : Blk w b cs t) (ha : a = ⟨b, o, none⟩) (hx : cs[o]? = some (l.val x)) (hK : K x w) : ldW l a K w := by
  subst ha
  exact ldW_blk h hx hK
abbrev MkL := Option (Nat × Nat)
def mkPt : MkL → Option Addr
  | none => none
  | some a => some ⟨a.1, 0, none⟩
def mkBl : MkL → List Nat
  | none => []
  | some a => [a.1, a.2]
def MkAt (w : World) (size : Int) : MkL → Option (List Nat) → Prop
  | none, none => True
  | some a, some l => ∃ q, Cnt w a.1 a.2 size q l
  | _, _ => False
theorem Cnt.only {F : Nat → Prop} {w w' : World} {b r : Nat} {size : Int} {q : List Value} {l : List Nat} (h : Cnt w b r size q l) (k : Only F w w') (h1 : ¬ F b) (h2 : ¬ F r) : Cnt w' b r size q l := ⟨h.head.only k h1, h.row.only k h2, h.ne, h.len, h.fits⟩
theorem MkAt.only {F : Nat → Prop} {w w' : World} {size : Int} {m : MkL} {l : Option (List Nat)} (h : MkAt w size m l) (k : Only F w w') (hk : ∀ j ∈ mkBl m, ¬ F j) : MkAt w' size m l := by
  cases m with
  | none => cases l with
    | none => trivial
    | some _ => exact h.elim
  | some a => cases l with
    | none => exact h.elim
    | some l =>
      obtain ⟨q, h⟩ := h
      exact ⟨q, h.only k (hk _ (by simp [mkBl])) (hk _ (by simp [mkBl]))⟩
theorem Sli.only {α : Type} {E : Enc α} {F : Nat → Prop} {w w' : World} {A : Option Addr} {n : Nat} {xs : List α} (h : Sli E w A n xs) (k : Only F w w') (hr : ∀ a, A = some a → ¬ F a.block) : Sli E w' A n xs := by
  refine ⟨h.1, h.2.1, fun hn => ?_⟩
  obtain ⟨a, e1, e2, e3⟩ := h.2.2 hn
  refine ⟨a, e1, e2, fun j v hj => ?_⟩
  have hc := e3 j v hj
  have hab : (a.add j).block = a.block := by unfold Addr.add; split <;> rfl
  have hlt := World.block_lt_of_cell? w _ hc
  unfold World.cell? at hc ⊢
  rw [k.2.2.2.2 _ hlt (by rw [hab]; exact hr a e1)]
  exact hc
def rowL (x : SLC) : List Nat := (x.1.map fun a => a.block).toList
def spOwn (b hb hr nb nr : Nat) (x : SLC) (m : MkL) : List Nat := b :: hb :: hr :: nb :: nr :: (rowL x ++ mkBl m)
def spV (db : Nat) (s : Sup) (x : SLC) (slot : Int) (hb nb : Nat) (m : MkL) : List Value :=
  [.pointer (some ⟨db, 0, none⟩), .int .u64 (s.gen : Int), .int .i64 s.size, .int .i64 s.blocks, .int .u32 (s.root : Int), .slice x.1 x.2.1 x.2.2, .int .i64 slot, .pointer (some ⟨hb, 0, none⟩), .pointer (some ⟨nb, 0, none⟩), .pointer (mkPt m)]
structure Spa.Ok (S : Spa) : Prop where
  size : S.sup.size = S.dev.size
  blocks : S.sup.blocks = S.dev.blocks
  fits : S.sup.Fits
  held : S.held.length = S.N
  now : S.now.length = S.N
  mark : ∀ l, S.mark = some l → l.length = S.N
structure SpM (w : World) (b db : Nat) (S : Spa) (F Fd : Nat → Prop) (x : SLC) (hb hr nb nr : Nat) (m : MkL) : Prop where
  box : ∃ t, Blk w b (spV db S.sup x S.slot hb nb m) t
  dev : DevAt w db S.dev Fd
  pgs : Pg w x S.sup.pages
  heldC : ∃ q, Cnt w hb hr S.sup.size q S.held
  nowC : ∃ q, Cnt w nb nr S.sup.size q S.now
  markC : MkAt w S.sup.size m S.mark
  own : ∀ k, F k ↔ Fd k ∨ k ∈ spOwn b hb hr nb nr x m
  nodup : (spOwn b hb hr nb nr x m).Nodup
  apart : ∀ k ∈ spOwn b hb hr nb nr x m, ¬ Fd k
  rowlt : ∀ k ∈ rowL x, k < w.heap.size
  ok : S.Ok
variable {w w' : World} {b db : Nat} {S : Spa} {F Fd : Nat → Prop} {x : SLC} {hb hr nb nr : Nat} {m : MkL}
theorem SpM.lt (h : SpM w b db S F Fd x hb hr nb nr m) : ∀ k, F k → k < w.heap.size := by
  intro k hk
  rcases (h.own k).1 hk with hk | hk
  · exact h.dev.lt k hk
  obtain ⟨t, hbx⟩ := h.box
  obtain ⟨q1, c1⟩ := h.heldC
  obtain ⟨q2, c2⟩ := h.nowC
  simp only [spOwn, List.mem_cons, List.mem_append] at hk
  rcases hk with rfl | rfl | rfl | rfl | rfl | hk | hk
  · exact hbx.lt
  · exact c1.head.lt
  · exact c1.row.lt
  · exact c2.head.lt
  · exact c2.row.lt
  · exact h.rowlt k hk
  · have hm := h.markC
    cases m with
    | none => cases hk
    | some a =>
      cases hS : S.mark with
      | none => rw [hS] at hm; exact hm.elim
      | some l =>
        rw [hS] at hm
        obtain ⟨q, hm⟩ := hm
        simp only [mkBl, List.mem_cons, List.not_mem_nil, or_false] at hk
        rcases hk with rfl | rfl
        · exact hm.head.lt
        · exact hm.row.lt
theorem SpM.only {G : Nat → Prop} (h : SpM w b db S F Fd x hb hr nb nr m) (k : Only G w w') (hFG : ∀ j, F j → ¬ G j) : SpM w' b db S F Fd x hb hr nb nr m := by
  have hF : ∀ j ∈ spOwn b hb hr nb nr x m, ¬ G j := fun j hj => hFG j ((h.own j).2 (.inr hj))
  obtain ⟨t, hbx⟩ := h.box
  obtain ⟨q1, c1⟩ := h.heldC
  obtain ⟨q2, c2⟩ := h.nowC
  refine ⟨⟨t, hbx.only k (hF b (by simp [spOwn]))⟩, h.dev.apart k (fun j hj => hFG j ((h.own j).2 (.inl hj))), ⟨h.pgs.sl.only k (fun a ha => hF _ (by simp [spOwn, rowL, ha])), h.pgs.nc⟩, ⟨q1, c1.only k (hF _ (by simp [spOwn])) (hF _ (by simp [spOwn]))⟩,
    ⟨q2, c2.only k (hF _ (by simp [spOwn])) (hF _ (by simp [spOwn]))⟩, h.markC.only k (fun j hj => hF j (by simp [spOwn, hj])), h.own, h.nodup, h.apart, fun j hj => Nat.lt_of_lt_of_le (h.rowlt j hj) k.2.2.2.1, h.ok⟩
theorem SpM.ext (h : SpM w b db S F Fd x hb hr nb nr m) (he : Ext w w') : SpM w' b db S F Fd x hb hr nb nr m :=
  h.only (G := fun _ => False) (Only.of_ext he) (fun _ _ h => h)
theorem SpM.setNow {l : List Nat} {q : List Value} (h : SpM w b db S F Fd x hb hr nb nr m) (hg : w.grownBy w' (some nr)) (hc : Cnt w' nb nr S.sup.size q l) (hl : l.length = S.now.length) :
    SpM w' b db { S with now := l } F Fd x hb hr nb nr m := by
  have hnd := h.nodup
  have hO : Only (fun k => k = nr) w w' := Only.of_grown hg (fun j hj => .inl (by injection hj with hj; exact hj.symm))
  have hne : ∀ j ∈ spOwn b hb hr nb nr x m, j ≠ nr → ¬ (fun k => k = nr) j := fun j _ h => h
  simp only [spOwn, List.nodup_cons, List.mem_cons, not_or] at hnd
  obtain ⟨⟨h1, h2, h3, h4, h5⟩, ⟨h6, h7, h8, h9⟩, ⟨h10, h11, h12⟩, ⟨h13, h14⟩, h15, h16⟩ := hnd
  obtain ⟨t, hbx⟩ := h.box
  obtain ⟨q1, c1⟩ := h.heldC
  refine ⟨⟨t, hbx.only hO h4⟩, h.dev.apart hO (fun j hj e => h.apart nr (by simp [spOwn]) (by rw [← show j = nr from e]; exact hj)), ⟨h.pgs.sl.only hO (fun a ha e => h15 (List.mem_append_left _ (by rw [← show a.block = nr from e]; simp [rowL, ha]))), h.pgs.nc⟩,
    ⟨q1, c1.only hO h8 h11⟩, ⟨q, hc⟩, h.markC.only hO (fun j hj e => h15 (List.mem_append_right _ (by rw [← show j = nr from e]; exact hj))), h.own, h.nodup, h.apart, fun j hj => Nat.lt_of_lt_of_le (h.rowlt j hj) hg.size, ⟨h.ok.size, h.ok.blocks, h.ok.fits, h.ok.held, hl.trans h.ok.now, h.ok.mark⟩⟩
theorem SpM.setDev {d' : Dev} (h : SpM w b db S F Fd x hb hr nb nr m) (hst : Step w db Fd d' w') (hd : d'.size = S.dev.size ∧ d'.blocks = S.dev.blocks) :
    ∃ F' Fd', SpM w' b db { S with dev := d' } F' Fd' x hb hr nb nr m ∧ (∀ k, F' k → F k ∨ w.heap.size ≤ k) ∧ Only F w w' := by
  obtain ⟨Fd', hD, hF, hO⟩ := hst
  have hap := h.apart
  have hlt := h.lt
  have hin : ∀ j ∈ spOwn b hb hr nb nr x m, F j := fun j hj => (h.own j).2 (.inr hj)
  obtain ⟨t, hbx⟩ := h.box
  obtain ⟨q1, c1⟩ := h.heldC
  obtain ⟨q2, c2⟩ := h.nowC
  refine ⟨fun k => Fd' k ∨ k ∈ spOwn b hb hr nb nr x m, Fd', ⟨⟨t, hbx.only hO (hap b (by simp [spOwn]))⟩, hD, ⟨h.pgs.sl.only hO (fun a ha => hap _ (by simp [spOwn, rowL, ha])), h.pgs.nc⟩, ⟨q1, c1.only hO (hap _ (by simp [spOwn])) (hap _ (by simp [spOwn]))⟩,
    ⟨q2, c2.only hO (hap _ (by simp [spOwn])) (hap _ (by simp [spOwn]))⟩, h.markC.only hO (fun j hj => hap j (by simp [spOwn, hj])), fun _ => Iff.rfl, h.nodup, fun j hj hf => ?_, fun j hj => Nat.lt_of_lt_of_le (h.rowlt j hj) hO.2.2.2.1, ⟨h.ok.size.trans hd.1.symm, h.ok.blocks.trans hd.2.symm, h.ok.fits, h.ok.held, h.ok.now, h.ok.mark⟩⟩, ?_, ?_⟩
  · rcases hF j hf with x | x
    · exact hap j hj x
    · have := hlt j (hin j hj); omega
  · rintro j (hj | hj)
    · rcases hF j hj with x | x
      · exact .inl ((h.own j).2 (.inl x))
      · exact .inr x
    · exact .inl (hin j hj)
  · obtain ⟨o1, o2, o3, o4, o5⟩ := hO
    exact ⟨o1, o2, o3, o4, fun j hj hf => o5 j hj (fun e => hf ((h.own j).2 (.inl e)))⟩
def SpAt (w : World) (b db : Nat) (S : Spa) (F : Nat → Prop) : Prop := ∃ Fd x hb hr nb nr m, SpM w b db S F Fd x hb hr nb nr m
def StepS (w : World) (b db : Nat) (F : Nat → Prop) (S' : Spa) (w' : World) : Prop := ∃ F', SpAt w' b db S' F' ∧ (∀ k, F' k → F k ∨ w.heap.size ≤ k) ∧ Only F w w'
theorem SpM.toAt (h : SpM w b db S F Fd x hb hr nb nr m) : SpAt w b db S F := ⟨Fd, x, hb, hr, nb, nr, m, h⟩
theorem SpAt.ext (h : SpAt w b db S F) (he : Ext w w') : SpAt w' b db S F := by
  obtain ⟨Fd, x, hb, hr, nb, nr, m, h⟩ := h
  exact ⟨Fd, x, hb, hr, nb, nr, m, h.ext he⟩
theorem SpAt.lt (h : SpAt w b db S F) : ∀ k, F k → k < w.heap.size := by
  obtain ⟨Fd, x, hb, hr, nb, nr, m, h⟩ := h
  exact h.lt
theorem SpAt.only {G : Nat → Prop} (h : SpAt w b db S F) (k : Only G w w') (hFG : ∀ j, F j → ¬ G j) : SpAt w' b db S F := by
  obtain ⟨Fd, x, hb, hr, nb, nr, m, h⟩ := h
  exact ⟨Fd, x, hb, hr, nb, nr, m, h.only k hFG⟩
end Go.Proofs.YtjdmggaeagnolaaGreatDoor.V
/- Contracts of the package space: what may be asked for, Room, what is free. -/
namespace Go.Proofs.YtjdmggaeagnolaaGreatDoor.V
open Go Go.Proofs Go.RowKit Crc
variable {w w' : World} {b db : Nat} {S : Spa} {F Fd : Nat → Prop} {x : SLC} {hb hr nb nr : Nat} {m : MkL}
structure SpDims (S : Spa) : Prop where
  geo : geoOK S.sup.size S.sup.blocks = true
  room : roomOf S.sup.size = S.sup.size - 16
  size : 128 ≤ S.sup.size ∧ S.sup.size ≤ 4096
  blocks : S.sup.blocks = (S.N : Int)
  n : 8 ≤ S.N ∧ S.N ≤ 4096
theorem SpM.dims (h : SpM w b db S F Fd x hb hr nb nr m) : SpDims S := by
  have hg := h.dev.ok.geo
  rw [← h.ok.size, ← h.ok.blocks] at hg
  obtain ⟨g1, g2, g3, g4, g5⟩ := geo_room hg
  have : S.sup.blocks = (S.N : Int) := by unfold Spa.N; omega
  exact ⟨hg, g1, ⟨g2, g3⟩, this, by omega⟩
theorem cnt_lt (h : SpM w b db S F Fd x hb hr nb nr m) (n : Nat) : S.now.getD n 0 < 65536 ∧ S.held.getD n 0 < 65536 ∧ cnt S.mark n < 65536 := by
  obtain ⟨q1, c1⟩ := h.heldC
  obtain ⟨q2, c2⟩ := h.nowC
  refine ⟨c2.getD_lt n, c1.getD_lt n, ?_⟩
  have hm := h.markC
  cases hS : S.mark with
  | none => simp [cnt]
  | some l =>
    rw [hS] at hm
    cases m with
    | none => exact hm.elim
    | some a =>
      obtain ⟨q, hm⟩ := hm
      exact hm.getD_lt n
theorem asked_calls (h : SpM w b db S F Fd x hb hr nb nr m) {n : Nat} (hn : n < 4294967296) :
    Calls Tryz.prog 41 #[.pointer (some ⟨b, 0, none⟩), .int .u32 (n : Int)] w (Ret fun v w' => v = .bool (S.asked n) ∧ w' = w) := by
  obtain ⟨t, hbx⟩ := h.box
  have hd := h.dims
  have hb2 := hd.blocks
  have hn2 := hd.n
  apply calls41
  unfold S41 Spa.asked
  refine splitW_i (fun hz => ?_) (fun hz => ?_)
  · have hz := of_decide_eq_true hz
    refine ptr_i (boxE 3 S.sup.blocks hbx (by rfl) (by rfl) ?_)
    have eb : IntKind.wrap .u64 S.sup.blocks = (S.N : Int) := by rw [hb2, wrap_u64_nat (by omega)]
    rw [wrap_u64_nat (by omega), eb]
    refine splitW_i (fun hq => ?_) (fun hq => ?_)
    · have hq := of_decide_eq_true hq
      refine ptr_i (boxE (l := .slc) 5 x hbx (by rfl) (by rfl) ?_)
      refine callW_of (contains_calls (c := x.2.2) h.pgs.sl) ?_
      rintro _ w1 ⟨rfl, rfl⟩
      refine ⟨_, rfl, ?_, rfl⟩
      rw [decide_eq_true (show 2 ≤ n by omega), decide_eq_true (show n < S.N by omega)]
      rfl
    · have hq := of_decide_eq_false hq
      refine ⟨?_, rfl⟩
      rw [decide_eq_false (show ¬ n < S.N by omega)]
      simp
  · have hz := of_decide_eq_false hz
    refine ⟨?_, rfl⟩
    rw [decide_eq_false (show ¬ 2 ≤ n by omega)]
    rfl
theorem roomC_calls (h : SpM w b db S F Fd x hb hr nb nr m) {k : Int} (hk0 : -9223372036854775808 ≤ k) (hk : k < 9223372036854775808) :
    Calls Tryz.prog 57 #[.pointer (some ⟨b, 0, none⟩), .int .i64 k] w (Ret fun v w' => v = .int .i64 (S.room k) ∧ Ext w w') := by
  obtain ⟨t, hbx⟩ := h.box
  have hd := h.dims
  have h1 := hd.room
  have h2 := hd.size
  apply calls57
  unfold S57 Spa.room
  refine splitW_f (by rfl) (ptr_i (boxE 2 S.sup.size hbx (by rfl) (by rfl) ?_))
  refine callW_of (room_calls w S.sup.size) ?_
  rintro _ w1 ⟨rfl, he⟩
  refine ⟨_, rfl, ?_⟩
  have e1 : IntKind.wrap .i64 (roomOf S.sup.size - 2) = roomOf S.sup.size - 2 := wrap_i64 (by omega) (by omega)
  have e2 : IntKind.wrap .i64 (Int.tdiv (roomOf S.sup.size - 2) 4) = (roomOf S.sup.size - 2) / 4 := by
    rw [Int.tdiv_eq_ediv_of_nonneg (by omega), wrap_i64 (by omega) (by omega)]
  rw [e1, e2]
  refine splitW_i (fun hz => ?_) (fun hz => ?_)
  · rw [if_pos (.inl (of_decide_eq_true hz))]
    exact ⟨rfl, he⟩
  have hz := of_decide_eq_false hz
  refine splitW_i (fun hq => ?_) (fun hq => ?_)
  · rw [if_pos (.inr (of_decide_eq_true hq))]
    exact ⟨rfl, he⟩
  have hq := of_decide_eq_false hq
  rw [if_neg (by omega), wrap_i64 (x := 4 * k) (by omega) (by omega), wrap_i64 (by omega) (by omega)]
  exact ⟨rfl, he⟩
theorem markget_calls (h : SpM w b db S F Fd x hb hr nb nr m) (n : Nat) (hn : n < 4294967296) :
    Calls Tryz.prog 42 #[.pointer (mkPt m), .int .u32 (n : Int)] w (Ret fun v w' => v = .int .i64 ((cnt S.mark n : Nat) : Int) ∧ w' = w) := by
  have hm := h.markC
  cases hS : S.mark with
  | none =>
    rw [hS] at hm
    cases m with
    | none => exact getnil_calls w n
    | some a => exact hm.elim
  | some l =>
    rw [hS] at hm
    cases m with
    | none => exact hm.elim
    | some a =>
      obtain ⟨q, hm⟩ := hm
      exact get_calls hm n hn
theorem nowget_calls (h : SpM w b db S F Fd x hb hr nb nr m) (n : Nat) (hn : n < 4294967296) :
    Calls Tryz.prog 42 #[.pointer (some ⟨nb, 0, none⟩), .int .u32 (n : Int)] w (Ret fun v w' => v = .int .i64 ((S.now.getD n 0 : Nat) : Int) ∧ w' = w) := by
  obtain ⟨q, c⟩ := h.nowC
  exact get_calls c n hn
theorem heldget_calls (h : SpM w b db S F Fd x hb hr nb nr m) (n : Nat) (hn : n < 4294967296) :
    Calls Tryz.prog 42 #[.pointer (some ⟨hb, 0, none⟩), .int .u32 (n : Int)] w (Ret fun v w' => v = .int .i64 ((S.held.getD n 0 : Nat) : Int) ∧ w' = w) := by
  obtain ⟨q, c⟩ := h.heldC
  exact get_calls c n hn
theorem draw_is {K : WP} {w : World} (h : K w.drew) : drewW K w := h
theorem contfn_calls {w : World} {A : Option Addr} {n c : Nat} {xs : List Nat} {g : FuncId} {cap : Array Value} {q : Nat → Bool} (h : Sli (numE .u32) w A n xs) (hen : enterable Tryz.prog g = true)
    (hq : ∀ y ∈ xs, Calls Tryz.prog g ([Value.int .u32 (y : Int)] ++ cap.toList).toArray w (Ret fun v w' => v = .bool (q y) ∧ w' = w)) :
    Calls Tryz.prog 54 #[.slice A n c, .func (.func g) #[] cap] w (Ret fun v w' => v = .bool (xs.any q) ∧ w' = w) := by
  apply calls54
  unfold S54
  have hl := h.len
  have hle := h.le
  have hi : Calls Tryz.prog 95 #[.slice A n c, .func (.func g) #[] cap] w (Ret fun v w' => (∃ k : Int, v = .int .i64 k ∧ (0 ≤ k ↔ xs.any q = true)) ∧ w' = w) := by
    apply calls95
    unfold S95
    refine loopW_i (fun y w' => w' = w ∧ ∃ i : Nat, i ≤ n ∧ y = ((i : Int), ()) ∧ (xs.take i).any q = false) (fun y => (n - y.1).toNat) ⟨rfl, 0, by omega, rfl, rfl⟩ ?_
    rintro _ w1 ⟨rfl, i, hi, rfl, hno⟩
    dsimp only
    by_cases hlt : i < n
    · refine splitW_t (decide_eq_true (by omega)) ?_
      refine idx_num h (by omega) (by omega) ?_
      rw [Int.toNat_natCast]
      have e : xs[i]? = some (xs.getD i 0) := by rw [List.getD_eq_getElem?_getD, List.getElem?_eq_getElem (by omega)]; rfl
      refine callVW_fn hen (callW_of (hq (xs.getD i 0) (List.mem_of_getElem? e)) ?_)
      rintro _ w2 ⟨rfl, rfl⟩
      refine ⟨_, rfl, ?_⟩
      have e2 : (xs.take (i + 1)).any q = q (xs.getD i 0) := by
        rw [List.take_add_one, e, List.any_append, hno]
        simp
      refine splitW_i (fun hz => ?_) (fun hz => ?_)
      · refine ⟨⟨i, rfl, fun _ => ?_, fun _ => by omega⟩, rfl⟩
        rw [List.any_eq_true]
        exact ⟨_, List.mem_of_getElem? e, hz⟩
      · refine ⟨⟨rfl, i + 1, by omega, by rw [wrap_i64 (by omega) (by omega)]; rfl, by rw [e2]; exact hz⟩, by rw [wrap_i64 (by omega) (by omega)]; omega⟩
    · obtain rfl : i = n := by omega
      refine splitW_f (decide_eq_false (by omega)) ?_
      rw [List.take_of_length_le (by omega)] at hno
      refine ⟨⟨-1, rfl, fun h => by omega, fun h => by rw [hno] at h; cases h⟩, rfl⟩
  refine callW_of hi ?_
  rintro _ w1 ⟨⟨k, rfl, hk⟩, rfl⟩
  refine ⟨k, rfl, ?_, rfl⟩
  have e : decide (k ≥ 0) = xs.any q := by rw [Bool.eq_iff_iff, decide_eq_true_iff]; exact hk
  rw [← e]
def freeV (S : Spa) : List (List Value) := S.freeL.map fun n : Nat => [.int .u32 (n : Int)]
def preF (S : Spa) (n : Nat) : List Nat := (List.range n).filter fun n => decide (2 ≤ n) && S.isFree n
theorem preF_succ (S : Spa) (n : Nat) : preF S (n + 1) = if (decide (2 ≤ n) && S.isFree n) = true then preF S n ++ [n] else preF S n := by
  unfold preF
  rw [List.range_succ, List.filter_append]
  simp only [List.filter_cons, List.filter_nil]
  split <;> simp
theorem preF_le (S : Spa) : ∀ (k n : Nat), (preF S n) <+: (preF S (n + k))
  | 0, n => List.prefix_refl _
  | k + 1, n => by
    refine (preF_le S k n).trans ?_
    rw [← Nat.add_assoc, preF_succ]
    split
    · exact List.prefix_append _ _
    · exact List.prefix_refl _
theorem freeL_get {S : Spa} {n : Nat} (hn : n < S.N) (hf : (decide (2 ≤ n) && S.isFree n) = true) : S.freeL[(preF S n).length]? = some n := by
  have h1 : preF S (n + 1) <+: S.freeL := by
    have := preF_le S (S.N - (n + 1)) (n + 1)
    rw [show n + 1 + (S.N - (n + 1)) = S.N by omega] at this
    exact this
  rw [preF_succ, if_pos hf] at h1
  obtain ⟨r, hr⟩ := h1
  rw [← hr]
  simp
def RFree (b r : Nat) (P : WP) : WP := fun w => Blk w r [.pointer (some ⟨b, 0, none⟩)] 39 ∧ P w
theorem free_calls (h : SpM w b db S F Fd x hb hr nb nr m) :
    Calls Tryz.prog 53 #[.pointer (some ⟨b, 0, none⟩)] w (Ret fun v w' => Iter Tryz.prog v (freeV S) (RFree b w.heap.size fun w => SpM w b db S F Fd x hb hr nb nr m) ∧ RFree b w.heap.size (fun w => SpM w b db S F Fd x hb hr nb nr m) w' ∧ w'.heap.size = w.heap.size + 1 ∧ Ext w w') := by
  apply calls53
  unfold S53
  apply newW_i
  have he := (Ext.refl w).alloc (.cells #[.pointer (some ⟨b, 0, none⟩)] 39)
  have hdim := h.dims
  have hN := hdim.n
  have hbl := hdim.blocks
  refine ⟨⟨_, _, rfl, by kernel_rfl, fun l J w1 hJ hR hdr hY => ?_⟩, ⟨Blk.new w _ _, h.ext he⟩, by simp, he⟩
  apply calls94
  unfold S94
  have hlen : (freeV S).length = S.freeL.length := by simp [freeV]
  refine loopW_i (fun y w' => ∃ n : Nat, 2 ≤ n ∧ n ≤ S.N ∧ y = ((n : Int), ()) ∧ J (preF S n).length w') (fun y => (S.N - y.1).toNat) ⟨2, by omega, by omega, rfl, ?_⟩ ?_
  · have : (preF S 2).length = 0 := by rw [preF_succ, if_neg (by simp), preF_succ, if_neg (by simp)]; rfl
    rw [this]
    exact hJ
  rintro _ w2 ⟨n, h2, hn, rfl, hJ2⟩
  dsimp only
  have hR2 := hR _ _ hJ2
  obtain ⟨hbk, hS⟩ := hR2
  obtain ⟨t, hbx⟩ := hS.box
  refine ldW_blk (x := some ⟨b, 0, none⟩) hbk (by rfl) (ptr_i (boxE 3 S.sup.blocks hbx (by rfl) (by rfl) ?_))
  rw [wrap_i64 (by omega) (by omega)]
  by_cases hlt : n < S.N
  · refine splitW_t (decide_eq_true (by omega)) ?_
    have hJ3 := hdr _ _ hJ2
    have hlt32 : n < 4294967296 := by omega
    refine draw_is ?_
    generalize w2.drew = w3 at hJ3 ⊢
    obtain ⟨hbk, hS⟩ := hR _ _ hJ3
    obtain ⟨t, hbx⟩ := hS.box
    obtain ⟨c1, c2, c3⟩ := cnt_lt hS n
    refine ldW_blk (x := some ⟨b, 0, none⟩) hbk (by rfl) (ptr_i (boxE (l := .ptr) 8 (some ⟨nb, 0, none⟩) hbx (by rfl) (by rfl) ?_))
    refine ldW_blk (x := some ⟨b, 0, none⟩) hbk (by rfl) (ptr_i (boxE (l := .ptr) 7 (some ⟨hb, 0, none⟩) hbx (by rfl) (by rfl) ?_))
    refine ldW_blk (x := some ⟨b, 0, none⟩) hbk (by rfl) (ptr_i (boxE (l := .ptr) 9 (mkPt m) hbx (by rfl) (by rfl) ?_))
    refine callW_of (nowget_calls hS n hlt32) ?_
    rintro _ w4 ⟨rfl, rfl⟩
    refine ⟨_, rfl, ?_⟩
    refine ⟨?_, callW_of (heldget_calls hS n hlt32) ?_⟩
    · intro p hp q hq
      simp only [List.mem_cons, List.not_mem_nil, or_false] at hp
      rcases hp with rfl | rfl | rfl | rfl <;> (simp only [List.mem_cons, List.not_mem_nil, or_false] at hq; subst hq)
      · exact (hbx.cell 9).trans rfl
      · exact (hbk.cell 0).trans rfl
      · exact (hbx.cell 7).trans rfl
      · exact (hbk.cell 0).trans rfl
    rintro _ w5 ⟨rfl, rfl⟩
    refine ⟨_, rfl, ?_⟩
    refine ⟨?_, callW_of (markget_calls hS n hlt32) ?_⟩
    · intro p hp q hq
      simp only [List.mem_cons, List.not_mem_nil, or_false] at hp
      rcases hp with rfl | rfl <;> (simp only [List.mem_cons, List.not_mem_nil, or_false] at hq; subst hq)
      · exact (hbx.cell 9).trans rfl
      · exact (hbk.cell 0).trans rfl
    rintro _ w6 ⟨rfl, rfl⟩
    refine ⟨_, rfl, ?_⟩
    rw [wrap_i64 (x := (S.now.getD n 0 : Int) + _) (by omega) (by omega), wrap_i64 (by omega) (by omega)]
    have hfree : S.isFree n = true ↔ S.now.getD n 0 = 0 ∧ S.held.getD n 0 = 0 ∧ cnt S.mark n = 0 := by simp [Spa.isFree, and_assoc]
    have hnx : IntKind.wrap .u32 ((n : Int) + 1) = ((n + 1 : Nat) : Int) := by rw [show (n : Int) + 1 = ((n + 1 : Nat) : Int) by omega, wrap_u32_nat (by omega)]
    refine splitW_i (fun hz => ?_) (fun hz => ?_)
    · have hz := beq_iff_eq.1 hz
      have hf : (decide (2 ≤ n) && S.isFree n) = true := by
        rw [hfree.2 (by omega), decide_eq_true h2]; rfl
      have hget := freeL_get hlt hf
      have hidx : (preF S n).length < (freeV S).length := by
        rw [hlen]
        exact (List.getElem?_eq_some_iff.1 hget).1
      refine .inr ⟨l, rfl, ?_⟩
      have hy := hY _ w6 hidx hJ3
      have el : (freeV S)[(preF S n).length] = [.int .u32 (n : Int)] := by
        obtain ⟨h1, h2⟩ := List.getElem?_eq_some_iff.1 hget
        simp [freeV, h2]
      rw [el] at hy
      obtain ⟨fn, tmps, asg, bd, hy1, hy2⟩ := hy
      refine ⟨fn, tmps, asg, bd, hy1, RoundIn.mono hy2 ?_⟩
      rintro (v | c | _) w7 hv
      · obtain ⟨rfl, hJ7⟩ := hv
        refine ⟨true, rfl, splitW_f (by rfl) ?_⟩
        rw [hnx]
        refine ⟨⟨n + 1, by omega, by omega, rfl, ?_⟩, by omega⟩
        rw [preF_succ, if_pos hf, List.length_append]
        exact hJ7
      · exact hv
      · exact hv
    · have hz := beq_eq_false_iff_ne.1 hz
      rw [hnx]
      refine ⟨⟨n + 1, by omega, by omega, rfl, ?_⟩, by omega⟩
      rw [preF_succ, if_neg (by
        intro hh
        simp only [Bool.and_eq_true, hfree] at hh
        omega)]
      exact hJ3
  · refine splitW_f (decide_eq_false (by omega)) ?_
    obtain rfl : n = S.N := by omega
    rw [hlen]
    exact hJ2
end Go.Proofs.YtjdmggaeagnolaaGreatDoor.V
/- Contracts of the package space: Free, take. -/
namespace Go.Proofs.YtjdmggaeagnolaaGreatDoor.V
open Go Go.Proofs Go.RowKit Crc
variable {w w' : World} {b db : Nat} {S : Spa} {F Fd : Nat → Prop} {x : SLC} {hb hr nb nr : Nat} {m : MkL}
theorem SpM.sameBut {a c : Nat} (h : SpM w b db S F Fd x hb hr nb nr m) (hs : SameBut a c w w') (h1 : ¬ F a) (h2 : ¬ F c) : SpM w' b db S F Fd x hb hr nb nr m := by
  refine h.only (G := fun k => k = a ∨ k = c) ⟨hs.1, hs.2.1, hs.2.2.1, Nat.le_of_eq hs.2.2.2.1.symm, fun k hk hg => hs.2.2.2.2 k (fun e => hg (.inl e)) (fun e => hg (.inr e))⟩ ?_
  rintro j hj (rfl | rfl)
  · exact h1 hj
  · exact h2 hj
theorem freeN_le (S : Spa) : S.freeN ≤ S.N := by
  unfold Spa.freeN Spa.freeL
  exact Nat.le_trans (List.length_filter_le _ _) (by simp)
theorem freeN_calls (h : SpM w b db S F Fd x hb hr nb nr m) :
    Calls Tryz.prog 23 #[.pointer (some ⟨b, 0, none⟩)] w (Ret fun v w' => v = .int .i64 (S.freeN : Int) ∧ Ext w w') := by
  have hdim := h.dims
  have hN := hdim.n
  have hle := freeN_le S
  apply calls23
  unfold S23
  refine new_i fun r1 w1 hb1 he1 hr1 hs1 => ?_
  refine splitW_f (by rfl) ?_
  refine callW_of (free_calls (h.ext he1)) ?_
  rintro v w2 ⟨hit, hR2, hs2, he2⟩
  refine ⟨v, rfl, ?_⟩
  have hlt := (h.ext he1).lt
  have h12 := he2.size
  have hr2 := hR2.1.lt
  have hlen : (freeV S).length = S.freeN := by simp [freeV, Spa.freeN]
  refine range_i (fun i w' => RFree b w1.heap.size (fun w => SpM w b db S F Fd x hb hr nb nr m) w' ∧ Blk w' r1 [.int .i64 (i : Int)] 3 ∧ Ext w w') hit (fun i w' hI => hI.1) ?_ ?_ ?_ ?_ ?_
  · rintro i w' ⟨⟨g1, g2⟩, g3, g4⟩
    have hx := (Ext.refl w').drew
    exact ⟨⟨g1.ext hx, g2.ext hx⟩, g3.ext hx, g4.trans hx⟩
  · rintro i w' w'' hs ⟨⟨g1, g2⟩, g3, g4⟩
    refine ⟨⟨hs.blk g1 (by omega), g2.sameBut hs (fun hf => ?_) (fun hf => ?_)⟩, hs.blk g3 (by omega), hs.ext g4 (by have := he1.size; omega)⟩
    · have := hlt _ hf; omega
    · have := hlt _ hf; omega
  · intro o
    have hx : Ext w2 ((w2.alloc (.deferred (some []))).alloc o) := ((Ext.refl w2).alloc _).alloc _
    exact ⟨⟨hR2.1.ext hx, hR2.2.ext hx⟩, (hb1.ext he2).ext hx, (he1.trans he2).trans hx⟩
  · rintro i hi w' N jump ⟨⟨g1, g2⟩, g3, g4⟩ hsz hN'
    have hi' : i < S.freeL.length := by have : (freeV S).length = S.freeL.length := by simp [freeV]
                                        omega
    refine ⟨((S.freeL[i] : Nat), ()), by simp [freeV], ?_⟩
    refine ldW_blk (x := (i : Int)) g3 (by rfl) ?_
    rw [wrap_i64 (by omega) (by omega)]
    refine stW_blk g3 (by show 0 < 1; omega) ?_
    have hg := set_grown w' r1 0 (.int .i64 ((i : Int) + 1))
    refine hN' _ ⟨⟨g1.other (p := ⟨r1, 0, none⟩) (by show r1 ≠ w1.heap.size; omega) _, ?_⟩, g3.set 0 (.int .i64 ((i : Int) + 1)), g4.set (p := ⟨r1, 0, none⟩) (by show w.heap.size ≤ r1; omega) _⟩ (by simp) (fun k hk => Below.heap_setCell _ _ _ _ (by show k ≠ r1; omega))
    refine g2.only (Only.of_grown (F := fun k => k = r1) hg (fun j hj => .inl (by injection hj with hj; exact hj.symm))) (fun j hj e => ?_)
    have hF := h.lt j hj
    have : j = r1 := e
    omega
  · rintro w' ⟨⟨g1, g2⟩, g3, g4⟩ hsz hdf
    rw [jumpK]
    rw [hlen] at g3
    refine ldW_blk (x := (S.freeN : Int)) g3 (by rfl) ?_
    refine stW_blk g3 (by show 0 < 1; omega) ?_
    have g5 := g3.set 0 (.int .i64 (S.freeN : Int))
    refine leave_i ?_ ?_
    · rw [Below.heap_setCell _ _ _ _ (by show w2.heap.size ≠ r1; omega)]
      exact hdf
    have hsb := sameBut_setO (a := w2.heap.size) (b := w2.heap.size + 1) (w := w'.setCell ⟨r1, 0, none⟩ (.int .i64 (S.freeN : Int))) (o := .deferred none) (.inl rfl)
    refine ldW_blk (x := (S.freeN : Int)) (hsb.blk g5 (by omega)) (by rfl) ?_
    refine ⟨rfl, hsb.ext (g4.set (p := ⟨r1, 0, none⟩) (by show w.heap.size ≤ r1; omega) _) (by have := he1.size; omega)⟩
def subs (l : List Nat) : List Nat → List Nat
  | [] => l
  | n :: r => subs (subL l n) r
theorem subs_append (l : List Nat) : ∀ a c : List Nat, subs l (a ++ c) = subs (subs l a) c
  | [], _ => rfl
  | n :: r, c => subs_append (subL l n) r c
theorem subL_length (l : List Nat) (n : Nat) : (subL l n).length = l.length := by unfold subL; split <;> simp
theorem subs_length : ∀ (a l : List Nat), (subs l a).length = l.length
  | [], l => rfl
  | n :: r, l => by rw [subs, subs_length r, subL_length]
theorem sub_now (h : SpM w b db S F Fd x hb hr nb nr m) {n : Nat} (hn : n < 4294967296) :
    Calls Tryz.prog 44 #[.pointer (some ⟨nb, 0, none⟩), .int .u32 (n : Int)] w (Ret fun v w' => v = .tuple #[.int .i64 (subN S.now n : Int), .int .i64 (atE S.now n)] ∧ SpM w' b db { S with now := subL S.now n } F Fd x hb hr nb nr m ∧ w.grownBy w' (some nr)) := by
  obtain ⟨q, c⟩ := h.nowC
  refine (sub_calls c n hn).mono (Ret.mono ?_)
  rintro v w' ⟨rfl, hc, hg⟩
  exact ⟨rfl, h.setNow hg hc (subL_length _ _), hg⟩
theorem takeback_calls {A : Option Addr} {n c r1 r2 : Nat} {ns : List Nat} (h : SpM w b db S F Fd x hb hr nb nr m) (h1 : Blk w r1 [.slice A n c] 40) (h2 : Blk w r2 [.pointer (some ⟨b, 0, none⟩)] 39) (hs : Sli (numE .u32) w A n ns)
    (hns : ∀ k ∈ ns, k < 4294967296) (hf1 : r1 ≠ nr) (hf2 : r2 ≠ nr) (hA : ∀ a, A = some a → a.block ≠ nr) :
    DCalls Tryz.prog 79 [.pointer (some ⟨r1, 0, none⟩), .pointer (some ⟨r2, 0, none⟩)] w fun _ w' => SpM w' b db { S with now := subs S.now ns } F Fd x hb hr nb nr m ∧ w.grownBy w' (some nr) := by
  apply callsD79
  unfold S79
  have hl := hs.len
  have hle := hs.le
  refine ldW_blk (x := (A, n, c)) h1 (by rfl) ?_
  dsimp only
  refine loopW_i (fun y w' => ∃ i : Nat, i ≤ n ∧ y = ((i : Int), ()) ∧ SpM w' b db { S with now := subs S.now (ns.take i) } F Fd x hb hr nb nr m ∧ w.grownBy w' (some nr)) (fun y => (n - y.1).toNat) ⟨0, by omega, rfl, h, grownBy_refl _ _⟩ ?_
  rintro _ w1 ⟨i, hi, rfl, hS, hg⟩
  dsimp only
  by_cases hlt : i < n
  · refine splitW_t (decide_eq_true (by omega)) ?_
    have hs1 : Sli (numE .u32) w1 A n ns := hs.grown hg (fun a ha e => hA a ha (by injection e))
    refine idx_num hs1 (by omega) (by omega) ?_
    rw [Int.toNat_natCast]
    have e : ns[i]? = some (ns.getD i 0) := by rw [List.getD_eq_getElem?_getD, List.getElem?_eq_getElem (by omega)]; rfl
    obtain ⟨t, hbx⟩ := hS.box
    refine ldW_blk (x := some ⟨b, 0, none⟩) (h2.grown hg (by simpa using hf2)) (by rfl) (ptr_i (boxE (l := .ptr) 8 (some ⟨nb, 0, none⟩) hbx (by rfl) (by rfl) ?_))
    refine callW_of (sub_now hS (hns _ (List.mem_of_getElem? e))) ?_
    rintro _ w2 ⟨rfl, hS2, hg2⟩
    refine ⟨(_, _, ()), rfl, ?_⟩
    have e2 : subs S.now (ns.take (i + 1)) = subL (subs S.now (ns.take i)) (ns.getD i 0) := by
      rw [List.take_add_one, e, subs_append]
      rfl
    refine ⟨⟨i + 1, by omega, by rw [wrap_i64 (by omega) (by omega)]; rfl, by rw [e2]; exact hS2, grownBy_tr hg hg2 (fun j hj => .inl hj)⟩, by rw [wrap_i64 (by omega) (by omega)]; omega⟩
  · refine splitW_f (decide_eq_false (by omega)) ?_
    rw [List.take_of_length_le (by omega)] at hS
    exact ⟨hS, hg⟩
end Go.Proofs.YtjdmggaeagnolaaGreatDoor.V
/- Contracts of the package space: take. -/
namespace Go.Proofs.YtjdmggaeagnolaaGreatDoor.V
open Go Go.Proofs Go.RowKit Crc
theorem loopW_x {T : Type} {x0 : T} {B : T → (T → WP) → WP} {w : World} (I : T → Nat → WP) (k0 : Nat) (h0 : I x0 k0 w)
    (h : ∀ x k w (J : T → WP), I x k w → (∀ x' k' w', k' < k → I x' k' w' → J x' w') → B x J w) : loopW T x0 B w := by
  classical
  refine ⟨fun x w => ∃ k, I x k w, fun x w => if hh : ∃ k, I x k w then Classical.choose (least hh) else 0, ⟨k0, h0⟩, ?_⟩
  rintro x w ⟨k, hk⟩
  have hh : ∃ k, I x k w := ⟨k, hk⟩
  have hs := Classical.choose_spec (least hh)
  refine h x _ w _ hs.1 (fun x' k' w' hlt hI => ⟨⟨k', hI⟩, ?_⟩)
  have hh' : ∃ k, I x' k w' := ⟨k', hI⟩
  simp only [dif_pos hh', dif_pos hh]
  exact Nat.lt_of_le_of_lt ((Classical.choose_spec (least hh')).2 k' hI) hlt
theorem list_ext_getD {l r : List Nat} (hl : l.length = r.length) (h : ∀ k, l.getD k 0 = r.getD k 0) : l = r := by
  apply List.ext_getElem hl
  intro k h1 h2
  have := h k
  rw [List.getD_eq_getElem?_getD, List.getD_eq_getElem?_getD, List.getElem?_eq_getElem h1, List.getElem?_eq_getElem h2] at this
  exact this
theorem getD_setN (l : List Nat) (i k x : Nat) : (l.set i x).getD k 0 = if i = k ∧ k < l.length then x else l.getD k 0 := by
  rw [List.getD_eq_getElem?_getD, List.getD_eq_getElem?_getD, List.getElem?_set]
  by_cases hik : i = k
  · subst hik
    by_cases hk : i < l.length
    · simp [hk]
    · simp [hk]
  · rw [if_neg hik, if_neg (fun h => hik h.1)]
def onL (l : List Nat) (ns : List Nat) : List Nat := ns.foldl (fun l n => l.set n 1) l
theorem onL_append (l a : List Nat) (n : Nat) : onL l (a ++ [n]) = (onL l a).set n 1 := by simp [onL]
theorem onL_length : ∀ (ns l : List Nat), (onL l ns).length = l.length
  | [], l => rfl
  | n :: r, l => by rw [onL, List.foldl_cons]; show (onL (l.set n 1) r).length = _; rw [onL_length r]; simp
theorem onL_get : ∀ (ns l : List Nat) (k : Nat), (∀ n ∈ ns, n < l.length) → (onL l ns).getD k 0 = if k ∈ ns then 1 else l.getD k 0
  | [], l, k, _ => by simp [onL]
  | n :: r, l, k, h => by
    show (onL (l.set n 1) r).getD k 0 = _
    rw [onL_get r _ k (fun j hj => by rw [List.length_set]; exact h j (List.mem_cons_of_mem _ hj)), getD_setN]
    have hn := h n List.mem_cons_self
    by_cases hk : k ∈ r
    · rw [if_pos hk, if_pos (List.mem_cons_of_mem _ hk)]
    · rw [if_neg hk]
      by_cases hkn : n = k
      · subst hkn
        rw [if_pos ⟨rfl, hn⟩, if_pos List.mem_cons_self]
      · rw [if_neg (fun e => hkn e.1), if_neg (fun e => by rcases List.mem_cons.1 e with e | e; exact hkn e.symm; exact hk e)]
theorem subs_get : ∀ (ns l : List Nat) (k : Nat), ns.Nodup → (∀ n ∈ ns, 2 ≤ n ∧ n < l.length ∧ l.getD n 0 ≠ 0) → (subs l ns).getD k 0 = if k ∈ ns then l.getD k 0 - 1 else l.getD k 0
  | [], l, k, _, _ => by simp [subs]
  | n :: r, l, k, hnd, h => by
    obtain ⟨h2, hlt, h0⟩ := h n List.mem_cons_self
    obtain ⟨hnr, hnd⟩ := List.nodup_cons.1 hnd
    have ea : atE l n = 0 := by unfold atE; rw [if_neg (by omega), if_neg h0]
    have es : subL l n = l.set n (l.getD n 0 - 1) := by
      unfold subL
      rw [if_pos ea]
    show (subs (subL l n) r).getD k 0 = _
    rw [es, subs_get r _ k hnd (fun j hj => ?_), getD_setN]
    · by_cases hkn : n = k
      · subst hkn
        rw [if_neg hnr, if_pos ⟨rfl, hlt⟩, if_pos List.mem_cons_self]
      · rw [if_neg (show ¬ (n = k ∧ k < l.length) from fun e => hkn e.1)]
        by_cases hk : k ∈ r
        · rw [if_pos hk, if_pos (List.mem_cons_of_mem _ hk)]
        · rw [if_neg hk, if_neg (fun e => by rcases List.mem_cons.1 e with e | e; exact hkn e.symm; exact hk e)]
    · obtain ⟨g1, g2, g3⟩ := h j (List.mem_cons_of_mem _ hj)
      refine ⟨g1, by rw [List.length_set]; exact g2, ?_⟩
      rw [getD_setN, if_neg (show ¬ (n = j ∧ j < l.length) from fun e => hnr (e.1 ▸ hj))]
      exact g3
structure Marked (S : Spa) (ns : List Nat) : Prop where
  nodup : ns.Nodup
  each : ∀ n ∈ ns, 2 ≤ n ∧ n < S.now.length ∧ S.now.getD n 0 = 0 ∧ cnt S.mark n ≠ 0
theorem Marked.get {S : Spa} {ns : List Nat} (h : Marked S ns) (k : Nat) : (onL S.now ns).getD k 0 = if k ∈ ns then 1 else S.now.getD k 0 := onL_get _ _ _ (fun n hn => (h.each n hn).2.1)
theorem Marked.back {S : Spa} {ns : List Nat} (h : Marked S ns) : subs (onL S.now ns) ns = S.now := by
  refine list_ext_getD (by rw [subs_length, onL_length]) (fun k => ?_)
  rw [subs_get _ _ _ h.nodup (fun n hn => ?_), h.get]
  · split
    · rename_i hk
      have := (h.each k hk).2.2.1
      omega
    · rfl
  · obtain ⟨g1, g2, g3, g4⟩ := h.each n hn
    refine ⟨g1, by rw [onL_length]; exact g2, ?_⟩
    rw [h.get, if_pos hn]
    decide
theorem Marked.backSet {S : Spa} {ns : List Nat} (h : Marked S ns) {n : Nat} (hn : n ∉ ns) : subs ((onL S.now ns).set n 1) ns = S.now.set n 1 := by
  refine list_ext_getD (by rw [subs_length, List.length_set, onL_length, List.length_set]) (fun k => ?_)
  rw [subs_get _ _ _ h.nodup (fun j hj => ?_), getD_setN, getD_setN, h.get, onL_length]
  · by_cases hk : k ∈ ns
    · rw [if_pos hk, if_neg (show ¬ (n = k ∧ k < S.now.length) from fun e => hn (e.1 ▸ hk)), if_pos hk, if_neg (show ¬ (n = k ∧ k < S.now.length) from fun e => hn (e.1 ▸ hk))]
      have := (h.each k hk).2.2.1
      omega
    · rw [if_neg hk, if_neg hk]
  · obtain ⟨g1, g2, g3, g4⟩ := h.each j hj
    refine ⟨g1, by rw [List.length_set, onL_length]; exact g2, ?_⟩
    rw [getD_setN, if_neg (show ¬ (n = j ∧ j < (onL S.now ns).length) from fun e => hn (e.1 ▸ hj)), h.get, if_pos hj]
    decide
theorem findIdx_is {p : Nat → Bool} {n N : Nat} (hn : n < N) (hp : p n = true) (hno : ∀ j, j < n → p j = false) : (List.range N).findIdx p = n := by
  have h1 : (List.range N).findIdx p < (List.range N).length := List.findIdx_lt_length_of_exists ⟨n, List.mem_range.2 hn, hp⟩
  rw [List.length_range] at h1
  rcases Nat.lt_trichotomy ((List.range N).findIdx p) n with h | h | h
  · have := List.findIdx_getElem (p := p) (xs := List.range N) (w := by rw [List.length_range]; exact h1)
    rw [List.getElem_range, hno _ h] at this
    cases this
  · exact h
  · have := List.not_of_lt_findIdx (p := p) (xs := List.range N) h
    rw [List.getElem_range, hp] at this
    simp at this
theorem isFree_iff {S : Spa} {n : Nat} : S.isFree n = true ↔ S.now.getD n 0 = 0 ∧ S.held.getD n 0 = 0 ∧ cnt S.mark n = 0 := by simp [Spa.isFree, and_assoc]
theorem freeAt_iff {l hl : List Nat} {n : Nat} : freeAt l hl n = true ↔ l.getD n 0 = 0 ∧ hl.getD n 0 = 0 := by simp [freeAt]
theorem Marked.take {S : Spa} {ns : List Nat} (h : Marked S ns) (hlt : takeI (onL S.now ns) S.held < S.now.length) (h0 : cnt S.mark (takeI (onL S.now ns) S.held) = 0) : S.takeI = takeI (onL S.now ns) S.held := by
  have hf := freeAt_iff.1 (takeI_is (l := onL S.now ns) (hl := S.held) (by rw [onL_length]; exact hlt))
  have hg := h.get (takeI (onL S.now ns) S.held)
  refine findIdx_is hlt (isFree_iff.2 ⟨?_, hf.2, h0⟩) (fun j hj => ?_)
  · by_cases hk : takeI (onL S.now ns) S.held ∈ ns
    · exact absurd h0 (h.each _ hk).2.2.2
    · rw [if_neg hk] at hg; omega
  · have := takeI_not hj
    cases hq : S.isFree j with
    | false => rfl
    | true =>
      obtain ⟨g1, g2, g3⟩ := isFree_iff.1 hq
      have hgj := h.get j
      by_cases hk : j ∈ ns
      · exact absurd g3 (h.each _ hk).2.2.2
      · rw [if_neg hk] at hgj
        rw [freeAt_iff.2 ⟨by omega, g2⟩] at this
        cases this
theorem Marked.none {S : Spa} {ns : List Nat} (h : Marked S ns) (hlt : ¬ takeI (onL S.now ns) S.held < S.now.length) : ¬ S.takeI < S.now.length := by
  intro hh
  have hp := List.findIdx_getElem (p := S.isFree) (xs := List.range S.now.length) (w := by rw [List.length_range]; exact hh)
  rw [List.getElem_range] at hp
  obtain ⟨g1, g2, g3⟩ := isFree_iff.1 hp
  have hgj := h.get S.takeI
  have hk : S.takeI ∉ ns := fun hk => absurd g3 (h.each _ hk).2.2.2
  have g1' : S.now.getD S.takeI 0 = 0 := g1
  rw [if_neg hk] at hgj
  have := takeI_not (l := onL S.now ns) (hl := S.held) (i := S.takeI) (by omega)
  have hf : freeAt (onL S.now ns) S.held S.takeI = true := freeAt_iff.2 ⟨by omega, g2⟩
  rw [hf] at this
  cases this
variable {w w' : World} {b db : Nat} {S : Spa} {F Fd : Nat → Prop} {x : SLC} {hb hr nb nr : Nat} {m : MkL}
theorem take_now (h : SpM w b db S F Fd x hb hr nb nr m) :
    Calls Tryz.prog 80 #[.pointer (some ⟨nb, 0, none⟩), .pointer (some ⟨hb, 0, none⟩)] w (Ret fun v w' => v = .tuple #[.int .u32 ((takeN S.now S.held : Nat) : Int), .int .i64 (takeE S.now S.held)] ∧ SpM w' b db { S with now := takeL S.now S.held } F Fd x hb hr nb nr m ∧ w.grownBy w' (some nr)) := by
  obtain ⟨q, c⟩ := h.nowC
  have hnd := h.nodup
  simp only [spOwn, List.nodup_cons, List.mem_cons, not_or] at hnd
  refine (take_calls c (.inr ⟨hb, hr, rfl, h.heldC, by rw [h.ok.held, h.ok.now], hnd.2.1.2.2.1, hnd.2.2.1.2.1⟩)).mono (Ret.mono ?_)
  rintro v w' ⟨rfl, hc, hg⟩
  exact ⟨rfl, h.setNow hg hc (by unfold takeL; split <;> simp), hg⟩
theorem nodup_len : ∀ {N : Nat} {ns : List Nat}, ns.Nodup → (∀ n ∈ ns, n < N) → ns.length ≤ N
  | 0, ns, _, hb => by
    cases ns with
    | nil => exact Nat.le_refl _
    | cons a r => have := hb a List.mem_cons_self; omega
  | N + 1, ns, h, hb => by
    have h2 := nodup_len (N := N) (ns := ns.erase N) (h.erase N) (fun n hn => by
      have := hb n (List.mem_of_mem_erase hn)
      have := (h.mem_erase_iff.1 hn).1
      omega)
    rw [List.length_erase] at h2
    split at h2 <;> omega
theorem takeS_calls (h : SpM w b db S F Fd x hb hr nb nr m) (h01 : S.now.getD 0 0 ≠ 0 ∧ S.now.getD 1 0 ≠ 0) :
    Calls Tryz.prog 43 #[.pointer (some ⟨b, 0, none⟩)] w (Ret fun v w' => v = .tuple #[.int .u32 ((S.takeN : Nat) : Int), .int .i64 S.takeE] ∧ SpM w' b db { S with now := S.takeL } F Fd x hb hr nb nr m ∧ Only F w w') := by
  have hFlt := h.lt
  have hnrF : F nr := (h.own nr).2 (.inr (by simp [spOwn]))
  have hdim := h.dims
  have hN := hdim.n
  have hlen := h.ok.now
  apply calls43
  unfold S43
  refine new_i fun r1 w1 hb1 he1 hr1 hs1 => ?_
  refine new_i fun r2 w2 hb2 he2 hr2 hs2 => ?_
  have hnr := hFlt nr hnrF
  have hb1 := hb1.ext he2
  have he := he1.trans he2
  have hz := he1.size
  refine loopW_x (fun _ k w' => ∃ (ns : List Nat) (A : Option Addr) (c : Nat), k = S.N - ns.length ∧ Marked S ns ∧ SpM w' b db { S with now := onL S.now ns } F Fd x hb hr nb nr m ∧ Blk w' r1 [.pointer (some ⟨b, 0, none⟩)] 39
    ∧ Blk w' r2 [.slice A ns.length c] 40 ∧ Owni (numE .u32) 31 w' w2.heap.size A ns.length c ns ∧ Only F w w') (S.N - 0) ⟨[], none, 0, rfl, ⟨List.nodup_nil, by simp⟩, h.ext he, hb1, hb2, Owni.nil _ _ _, Only.of_ext he⟩ ?_
  rintro ⟨⟩ k w3 J ⟨ns, A, c, rfl, hM, hS, g1, g2, g3, g4⟩ hJ
  refine draw_i fun w4 he4 _ _ => ?_
  have hS := hS.ext he4
  have g1 := g1.ext he4
  have g2 := g2.ext he4
  have g3 := g3.ext he4
  have g4 := Only.trans g4 (Only.of_ext (F := F) he4) (fun j hj => .inl hj)
  obtain ⟨t, hbx⟩ := hS.box
  refine ldW_blk (x := some ⟨b, 0, none⟩) g1 (by rfl) (ptr_i (boxE (l := .ptr) 8 (some ⟨nb, 0, none⟩) hbx (by rfl) (by rfl) ?_))
  refine ldW_blk (x := some ⟨b, 0, none⟩) g1 (by rfl) (ptr_i (boxE (l := .ptr) 7 (some ⟨hb, 0, none⟩) hbx (by rfl) (by rfl) ?_))
  refine callW_of (take_now hS) ?_
  rintro _ w5 ⟨rfl, hS5, hg5⟩
  refine ⟨(((takeN (onL S.now ns) S.held : Nat) : Int), takeE (onL S.now ns) S.held, ()), rfl, ?_⟩
  have hg5' : ∀ j, some nr = some j → F j ∨ w.heap.size ≤ j := fun j hj => .inl (by injection hj with hj; subst hj; exact hnrF)
  have o5 : Only F w w5 := Only.trans g4 (Only.of_grown (F := F) hg5 (fun j hj => .inl (by injection hj with hj; subst hj; exact hnrF))) (fun j hj => .inl hj)
  have g1 := g1.grown hg5 (by simp; omega)
  have g2 := g2.grown hg5 (by simp; omega)
  have hge : ∀ j, orow A = some j → w2.heap.size ≤ j := g3.row
  have g3 := g3.grown hg5 (fun j hj e => by injection hj with hj; subst hj; have := hge _ e; have := he.size; omega)
  have hn32 : ∀ n ∈ ns, n < 4294967296 := fun n hn => by have := (hM.each n hn).2.1; omega
  have hAnr : ∀ a, A = some a → a.block ≠ nr := fun a ha e => by have := hge a.block (by rw [ha]; rfl); have := he.size; omega
  -- the end: what was marked goes back
  have fin : ∀ {l : List Nat} {l' : List Nat} {w6 : World} {v : Value}, SpM w6 b db { S with now := l } F Fd x hb hr nb nr m → Ext w5 w6 → subs l ns = l' → v = .tuple #[.int .u32 ((S.takeN : Nat) : Int), .int .i64 S.takeE] → l' = S.takeL →
      leaveW Tryz.prog (⟨.fn (.func 79) #[.pointer (some ⟨r2, 0, none⟩), .pointer (some ⟨r1, 0, none⟩)], #[]⟩ :: []) (fun w' => v = .tuple #[.int .u32 ((S.takeN : Nat) : Int), .int .i64 S.takeE] ∧ SpM w' b db { S with now := S.takeL } F Fd x hb hr nb nr m ∧ Only F w w') w6 := by
    rintro l l' w6 v hS6 he6 rfl hv hl
    refine .inr ⟨_, _, rfl, by kernel_rfl, ?_⟩
    refine CallsDIn.mono (takeback_calls hS6 (g2.ext he6) (g1.ext he6) ((g3.ext he6).sl) hn32 (by omega) (by omega) hAnr) ?_
    rintro e u' w7 ⟨hu, hR⟩
    refine ⟨hu, ?_⟩
    cases e with
    | returned v7 =>
      obtain ⟨hS7, hg7⟩ := hR
      refine ⟨hv, ?_, ?_⟩
      · rw [← hl]; exact hS7
      · exact Only.trans (Only.trans o5 (Only.of_ext (F := F) he6) (fun j hj => .inl hj)) (Only.of_grown (F := F) hg7 (fun j hj => .inl (by injection hj with hj; subst hj; exact hnrF))) (fun j hj => .inl hj)
    | panicked c => exact hR.elim
    | outgrown => exact hR.elim
  have hol : (onL S.now ns).length = S.now.length := onL_length _ _
  by_cases hlt : takeI (onL S.now ns) S.held < S.now.length
  · have eN : takeN (onL S.now ns) S.held = takeI (onL S.now ns) S.held := by unfold takeN; rw [if_pos (by omega)]
    have eE : takeE (onL S.now ns) S.held = 0 := by unfold takeE; rw [if_pos (by omega)]
    have eL : takeL (onL S.now ns) S.held = (onL S.now ns).set (takeI (onL S.now ns) S.held) 1 := by unfold takeL; rw [if_pos (by omega)]
    dsimp only at eN eE ⊢
    rw [eN, eE]
    rw [eL] at hS5
    have hf := freeAt_iff.1 (takeI_is (l := onL S.now ns) (hl := S.held) (by omega))
    have hget := hM.get (takeI (onL S.now ns) S.held)
    generalize hn : takeI (onL S.now ns) S.held = n at *
    have hnns : n ∉ ns := fun hk => by rw [if_pos hk] at hget; omega
    rw [if_neg hnns] at hget
    have h2n : 2 ≤ n := by
      rcases Nat.lt_or_ge n 2 with hh | hh
      · have : n = 0 ∨ n = 1 := by omega
        rcases this with rfl | rfl
        · exact absurd (by omega : S.now.getD 0 0 = 0) h01.1
        · exact absurd (by omega : S.now.getD 1 0 = 0) h01.2
      · exact hh
    refine splitW_f (by rfl) ?_
    obtain ⟨t, hbx⟩ := hS5.box
    refine ldW_blk (x := some ⟨b, 0, none⟩) g1 (by rfl) (ptr_i (boxE (l := .ptr) 9 (mkPt m) hbx (by rfl) (by rfl) ?_))
    refine callW_of (markget_calls hS5 n (by omega)) ?_
    rintro _ w6 ⟨rfl, hw6⟩
    refine ⟨_, rfl, ?_⟩
    rw [hw6]
    dsimp only
    refine splitW_i (fun hz => ?_) (fun hz => ?_)
    · have hz : cnt S.mark n = 0 := by have := beq_iff_eq.1 hz; omega
      have eT : S.takeI = n := by rw [← hn]; exact hM.take (by rw [hn]; exact hlt) (by rw [hn]; exact hz)
      have e1 : S.takeN = n := by unfold Spa.takeN; rw [eT, if_pos hlt]
      have e2 : S.takeE = 0 := by unfold Spa.takeE; rw [eT, if_pos hlt]
      have e3 : S.takeL = S.now.set n 1 := by unfold Spa.takeL; rw [eT, if_pos hlt]
      exact fin hS5 (Ext.refl w5) (hM.backSet hnns) (by rw [e1, e2]) e3.symm
    · have hz : cnt S.mark n ≠ 0 := by have := beq_eq_false_iff_ne.1 hz; omega
      have hM' : Marked S (ns ++ [n]) := by
        refine ⟨?_, fun k hk => ?_⟩
        · rw [List.nodup_append]
          exact ⟨hM.nodup, by simp, fun a ha c hc e => by simp at hc; subst hc; subst e; exact hnns ha⟩
        · rcases List.mem_append.1 hk with hk | hk
          · exact hM.each k hk
          · rw [List.mem_singleton.1 hk]; exact ⟨h2n, hlt, by omega, hz⟩
      have hlen1 := nodup_len hM'.nodup (fun k hk => (hM'.each k hk).2.1)
      rw [List.length_append, List.length_singleton] at hlen1
      refine ldW_blk (x := (A, ns.length, c)) g2 (by rfl) ?_
      have hle := g3.le
      dsimp only
      refine append_newi (E := numE .u32) (ys := [n]) (by rfl) rfl elem_u32 g3 (by have := he4.size; have := hg5.size; have := g4.2.2.2.1; have := he.size; have hh := g2.lt; omega) (by omega) (by omega) ?_
      intro A' c' w7 ho7 hg7
      have hx7 : ∀ j, orow A = some j → ¬ F j := fun j hj hf => by have := hge j hj; have := hFlt j hf; have := he.size; omega
      have o7 : Only (fun j => orow A = some j) w5 w7 := Only.of_grown hg7.grown (fun j hj => .inl hj)
      have hS7 := hS5.only o7 (fun j hj e => hx7 j e hj)
      have g1 := g1.only o7 (fun e => by have := hge _ e; omega)
      have g2 := g2.only o7 (fun e => by have := hge _ e; omega)
      refine stW_blk g2 (by show 0 < 1; omega) ?_
      have hg8 := set_grown w7 r2 0 (.slice A' (ns.length + 1) c')
      have o8 : Only (fun j => j = r2) w7 (w7.setCell ⟨r2, 0, none⟩ (.slice A' (ns.length + 1) c')) := Only.of_grown hg8 (fun j hj => .inl (by injection hj with hj; exact hj.symm))
      have hr2F : ¬ F r2 := fun hf => by have := hFlt r2 hf; omega
      have hAr2 : ∀ j, orow A' = some j → j ≠ r2 := fun j hj e => by
        have := ho7.row j hj
        omega
      refine hJ () (S.N - (ns ++ [n]).length) _ (by rw [List.length_append, List.length_singleton]; omega) ⟨ns ++ [n], A', c', rfl, hM', ?_, g1.only o8 (by omega), ?_, ?_, ?_⟩
      · rw [onL_append]
        exact hS7.only o8 (fun j hj e => hr2F (by rw [← show j = r2 from e]; exact hj))
      · rw [List.length_append, List.length_singleton]
        exact g2.set 0 _
      · rw [List.length_append, List.length_singleton]
        exact ho7.only o8 (fun j hj e => hAr2 j hj e)
      · refine Only.trans (Only.trans o5 o7 (fun j hj => .inr (by have := hge j hj; have := he.size; omega))) o8 (fun j hj => .inr (by have : j = r2 := hj; omega))
  · have eN : takeN (onL S.now ns) S.held = 0 := by unfold takeN; rw [if_neg (by omega)]
    have eE : takeE (onL S.now ns) S.held = 9 := by unfold takeE; rw [if_neg (by omega)]
    have eL : takeL (onL S.now ns) S.held = onL S.now ns := by unfold takeL; rw [if_neg (by omega)]
    dsimp only at eN eE ⊢
    rw [eN, eE]
    rw [eL] at hS5
    refine splitW_t (by rfl) ?_
    have hno := hM.none hlt
    have e1 : S.takeN = 0 := by unfold Spa.takeN; rw [if_neg hno]
    have e2 : S.takeE = 9 := by unfold Spa.takeE; rw [if_neg hno]
    have e3 : S.takeL = S.now := by unfold Spa.takeL; rw [if_neg hno]
    exact fin hS5 (Ext.refl w5) hM.back (by rw [e1, e2]) e3.symm
end Go.Proofs.YtjdmggaeagnolaaGreatDoor.V
/- Contracts of the package space: page, Get. -/
namespace Go.Proofs.YtjdmggaeagnolaaGreatDoor.V
open Go Go.Proofs Go.RowKit Crc
theorem left_calls {w : World} {lo b : Nat} {bs : List UInt8} (h : Rdr w lo b bs) :
    Calls Tryz.prog 101 #[.pointer (some ⟨b, 0, none⟩)] w (Ret fun v w' => v = .int .i64 (bs.length : Int) ∧ w' = w) := by
  obtain ⟨A, n, c, t, hb, hs, hc, ha, hlo⟩ := h
  have hl := hs.blen
  apply calls101
  unfold S101
  refine splitW_f (by rfl) (ptr_i (box0 (A, n, c) hb (by rfl) ⟨?_, rfl⟩))
  rw [hl]
theorem bytes_calls {w : World} {lo b k : Nat} {bs : List UInt8} (h : Rdr w lo b bs) (hk : k ≤ 1000000) :
    Calls Tryz.prog 100 #[.pointer (some ⟨b, 0, none⟩), .int .i64 (k : Int)] w (Ret fun v w' => ∃ A n c, v = .tuple #[.slice A n c, .int .i64 (rd bs k).2.1] ∧ Sl w' A n (bV (if bs.length < k then [] else bs.take k)) ∧ w.grownBy w' (some b)) := by
  apply calls100
  unfold S100
  refine splitW_f (by rfl) (splitW_f (decide_eq_false (by omega)) ?_)
  refine callW_of (otake_calls h hk) ?_
  rintro _ w1 ⟨A, n, c, rfl, hs, hr, hg⟩
  refine ⟨((A, n, c), (rd bs k).2.1, ()), rfl, ?_⟩
  have hl := hs.blen
  have hn : n ≤ 1000000 := by
    split at hl
    · simp only [List.length_nil] at hl; omega
    · rw [List.length_take] at hl; omega
  refine callW_of (clone_calls hs (by dsimp only; omega)) ?_
  rintro _ w2 ⟨⟨A2, n2, c2⟩, rfl, ho2, he2⟩
  refine ⟨(A2, n2, c2), rfl, A2, n2, c2, rfl, ho2.sl, grownBy_tr hg (grownBy_of_ext he2 none) (fun j hj => by cases hj)⟩
def pgV (p : Page) (y : SLC) : List Value := [.int .u8 (p.1.toNat : Int), .slice y.1 y.2.1 y.2.2, .string p.2.2]
def pgT (p : Page) (y : SLC) : Int × SLC × ByteArray × Unit := ((p.1.toNat : Int), y, p.2.2, ())
abbrev pgLs : List Lf := [.int .u8, .slc, .str]
theorem pgV_one (p : Page) (y : SLC) : ∀ v ∈ pgV p y, v.oneCell' = true := by
  intro v hv
  simp only [pgV, List.mem_cons, List.not_mem_nil, or_false] at hv
  rcases hv with rfl | rfl | rfl <;> rfl
theorem setP {w : World} {r : Nat} {cs : List Value} {t : TypeId} {K : (Int × SLC × ByteArray × Unit) → WP} {us : Array Value} (p : Page) (y : SLC) (hb : Blk w r cs t) (hl : cs.length = 3) (hu : us.size = 3)
    (hK : ∀ w', Blk w' r (pgV p y) t → (∀ w0, Ext w0 w → w0.heap.size ≤ r → Ext w0 w') → (∀ k : Nat, k ≠ r → w'.heap[k]? = w.heap[k]?) → w'.heap.size = w.heap.size → K (pgT p y) w') :
    (guardW (us.size = 3) <| stAW (⟨r, 0, none⟩ : Addr) (pgV p y) <| ldAW pgLs (⟨r, 0, none⟩ : Addr) K) w :=
  refill (vs := pgV p y) hb (by rw [hl]; rfl) (pgV_one p y) hu fun w' hb' hx hs hz => boxA (ls := pgLs) (pgT p y) hb' rfl (hK w' hb' hx hs hz)
theorem retP {w : World} {r : Nat} {t : TypeId} {K : (Int × SLC × ByteArray × Unit) → WP} (p : Page) (y : SLC) (hb : Blk w r (pgV p y) t)
    (hK : ∀ w', (∀ w0, Ext w0 w → w0.heap.size ≤ r → Ext w0 w') → (∀ k : Nat, k ≠ r → w'.heap[k]? = w.heap[k]?) → w'.heap.size = w.heap.size → K (pgT p y) w') :
    (ldAW pgLs (⟨r, 0, none⟩ : Addr) fun (u : Int × SLC × ByteArray × Unit) => guardW ((#[(.int .u8 u.1), (.slice u.2.1.1 u.2.1.2.1 u.2.1.2.2), (.string u.2.2.1)] : Array Value).size = 3) <| stAW (⟨r, 0, none⟩ : Addr) [(.int .u8 u.1), (.slice u.2.1.1 u.2.1.2.1 u.2.1.2.2), (.string u.2.2.1)] <| ldAW pgLs (⟨r, 0, none⟩ : Addr) K) w :=
  boxA (ls := pgLs) (pgT p y) hb rfl (setP p y hb rfl rfl fun w' _ hx hs hz => hK w' hx hs hz)
def PgRet (w : World) (p : Page × Int) (v : Value) (w' : World) : Prop := ∃ y : SLC, v = .tuple #[.agg (pgV p.1 y).toArray, .int .i64 p.2] ∧ Owni (numE .u32) 31 w' w.heap.size y.1 y.2.1 y.2.2 p.1.2.1 ∧ Ext w w'
theorem pgRet_bad {w w' : World} (he : Ext w w') (e : Int) : PgRet w (page0, e) (.tuple #[.agg (pgV page0 (none, 0, 0)).toArray, .int .i64 e]) w' := ⟨(none, 0, 0), rfl, Owni.nil _ _ _, he⟩
theorem Owni.keepE {α : Type} {E : Enc α} {e : TypeId} {w w' : World} {B : Nat} {A : Option Addr} {n c r : Nat} {xs : List α} (h : Owni E e w B A n c xs) (hr : r < B) (hz : w'.heap.size = w.heap.size) (ho : w'.os = w.os) (ht : w'.tape = w.tape) (hu : w'.output = w.output) (hs : ∀ k : Nat, k ≠ r → w'.heap[k]? = w.heap[k]?) : Owni E e w' B A n c xs :=
  h.only (F := fun k => k = r) ⟨ho, ht, hu, Nat.le_of_eq hz.symm, fun k _ hk => hs k hk⟩ (fun j hj e => by have := h.row j hj; have : j = r := e; omega)
variable {w w' : World} {b db : Nat} {S : Spa} {F Fd : Nat → Prop} {x : SLC} {hb hr nb nr : Nat} {m : MkL}
theorem page_calls_s (h : SpM w b db S F Fd x hb hr nb nr m) (s : ByteArray) (hs : s.size ≤ 1000000) :
    Calls Tryz.prog 60 #[.pointer (some ⟨b, 0, none⟩), .string s] w (Ret (PgRet w (pageR S.N (B s)))) := by
  have hdim := h.dims
  have hN := hdim.n
  have hbl := hdim.blocks
  apply calls60
  unfold S60
  refine new_i fun r1 w1 hb1 he1 hr1 hz1 => ?_
  have hb1 : Blk w1 r1 (pgV page0 (none, 0, 0)) _ := hb1
  refine callW_of (fget_calls w1 s (by omega)) ?_
  rintro _ w2 ⟨rfl, he2⟩
  refine ⟨(fT (getR (B s)).1, (getR (B s)).2, ()), rfl, ?_⟩
  refine boxed (f := (getR (B s)).1) fun r3 w3 hb3 he3 hr3 => ?_
  have hb1 := (hb1.ext he2).ext he3
  have he := (he1.trans he2).trans he3
  have hz2 := he2.size
  have hz3 := he3.size
  have hlt1 : r1 < w3.heap.size := hb1.lt
  have hlt3 : r3 < w3.heap.size := hb3.lt
  have hbad : ∀ {w4 : World}, Ext w w4 → (pageR S.N (B s)).2 ≠ 0 ∨ (pageR S.N (B s)) = (page0, 10) → pageR S.N (B s) = (page0, 10) := by
    intro w4 _ hh
    rcases hh with hh | hh
    · unfold pageR at hh ⊢
      split
      · rename_i hc; rw [if_pos hc] at hh; exact absurd rfl hh
      · rfl
    · exact hh
  refine splitW_i (fun hq => ?_) (fun hq => ?_)
  · have hq := bne_iff_ne.1 hq
    have ep : pageR S.N (B s) = (page0, 10) := by unfold pageR; rw [if_neg (fun hc => hq hc.1)]
    refine retP page0 (none, 0, 0) hb1 fun w4 hx _ _ => ?_
    rw [ep]
    exact pgRet_bad (hx w he (by omega)) 10
  have hg0 := bne_eq_false_iff_eq.1 hq
  refine box0 (((getR (B s)).1.1.toNat : Nat) : Int) hb3 (by rfl) ?_
  refine splitW_i (fun hq => ?_) (fun hq => ?_)
  · have hq := of_decide_eq_true hq
    have ep : pageR S.N (B s) = (page0, 10) := by unfold pageR; rw [if_neg (fun hc => by omega)]
    refine retP page0 (none, 0, 0) hb1 fun w4 hx _ _ => ?_
    rw [ep]
    exact pgRet_bad (hx w he (by omega)) 10
  have hq3 : 3 ≤ (getR (B s)).1.1.toNat := by have := of_decide_eq_false hq; omega
  have hdl : (B (getR (B s)).1.2.2).length ≤ 4096 := by
    obtain ⟨_, _, _, q4, _⟩ := putR_ok (by rw [(getR_ok hg0).2])
    rw [(getR_ok hg0).1]
    have hsz := B_size s
    have := putR_ok (size := ((B s).length : Int)) (f := frameB (B s)) (by rw [(getR_ok hg0).2])
    omega
  have hpg : pageR S.N (B s) = if pageOKd S.N (B (getR (B s)).1.2.2) then (((getR (B s)).1.1, kidsOf (B (getR (B s)).1.2.2), mkB ((B (getR (B s)).1.2.2).drop (2 + 4 * lev ((B (getR (B s)).1.2.2).take 2)))), 0) else (page0, 10) := by
    unfold pageR
    by_cases hc : pageOKd S.N (B (getR (B s)).1.2.2)
    · rw [if_pos ⟨hg0, hq3, hc⟩, if_pos hc]
    · rw [if_neg (fun hh => hc hh.2.2), if_neg hc]
  rw [hpg]
  clear hpg hbad
  generalize (getR (B s)).1 = f at *
  refine boxF 2 f.2.2 hb3 (by rfl) ?_
  refine conv_bytes (u := .string) (e := 5) (by kernel_rfl) (by kernel_rfl) (by kernel_rfl) (by have := B_size f.2.2; omega) ?_
  intro c w4 hsl he4 hs4 hc4
  have hb1 := hb1.ext he4
  have hb3 := hb3.ext he4
  have he4 := he.trans he4
  have hlt14 := hb1.lt
  have hlt34 := hb3.lt
  refine callW_of (onew_calls hsl (by have := B_size f.2.2; dsimp only; omega)) ?_
  rintro _ w5 ⟨rb, rfl, hrb, hrd, he5⟩
  refine ⟨some ⟨rb, 0, none⟩, rfl, ?_⟩
  have hb1 := hb1.ext he5
  have hb3 := hb3.ext he5
  have he5' := he4.trans he5
  generalize hd : B f.2.2 = d at *
  refine callW_of (number_calls (k := 2) hrd (by omega) (by omega)) ?_
  rintro _ w6 ⟨rfl, hrd6, hg6⟩
  have hb1 := hb1.grown hg6 (by simp; omega)
  have hb3 := hb3.grown hg6 (by simp; omega)
  have he6 : Ext w w6 := he5'.grown hg6 (fun j hj => by injection hj with hj; have := he4.size; omega)
  refine ⟨(((rd d 2).1 : Int), (rd d 2).2.1, ()), rfl, ?_⟩
  dsimp only
  by_cases hl2 : d.length < 2
  · have e1 : rd d 2 = (0, 7, d) := by unfold rd; rw [if_pos hl2]
    rw [e1]
    refine splitW_t (by rfl) ?_
    refine retP page0 (none, 0, 0) hb1 fun w7 hx _ _ => ?_
    rw [if_neg (fun hc => by have := hc.1; omega)]
    exact pgRet_bad (hx w he6 (by omega)) 10
  have e1 : rd d 2 = (lev (d.take 2), 0, d.drop 2) := by unfold rd; rw [if_neg hl2]
  have hk16 : lev (d.take 2) < 65536 := by
    have := rd_lt2 d
    rw [e1] at this
    exact this
  rw [e1] at hrd6 ⊢
  dsimp only at hrd6 ⊢
  refine splitW_f (by rfl) ?_
  refine box0 ((f.1.toNat : Nat) : Int) hb3 (by rfl) ?_
  refine stW_blk hb1 (by show 0 < 3; omega) ?_
  have hg7 := set_grown w6 r1 0 (.int .u8 (f.1.toNat : Int))
  have hb1 : Blk (w6.setCell ⟨r1, 0, none⟩ (.int .u8 (f.1.toNat : Int))) r1 (pgV (f.1, [], ByteArray.empty) (none, 0, 0)) _ := hb1.set 0 (.int .u8 (f.1.toNat : Int))
  have hrd7 := hrd6.grown hg7 (fun j hj => by injection hj with hj; left; omega)
  have he7 := he6.grown hg7 (fun j hj => by injection hj with hj; omega)
  generalize hw7 : w6.setCell ⟨r1, 0, none⟩ (.int .u8 (f.1.toNat : Int)) = w7 at *
  generalize hk : lev (d.take 2) = k at *
  have hr1w : r1 < w4.heap.size := hlt14
  have h45 := he5.size
  have h67 : w6.heap.size ≤ w7.heap.size := by rw [← hw7]; simp
  have h56 := hg6.size
  refine loopW_i (fun y w' => ∃ (i : Nat) (A : Option Addr) (c : Nat), i ≤ k ∧ y = ((i : Int), ()) ∧ 2 + 4 * i ≤ d.length ∧ (∀ n ∈ wordsOf i (d.drop 2), 2 ≤ n ∧ n < S.N) ∧ Ext w w' ∧ w7.heap.size ≤ w'.heap.size ∧ Rdr w' w4.heap.size rb (d.drop (2 + 4 * i)) ∧ Blk w' r1 (pgV (f.1, [], ByteArray.empty) (A, i, c)) 69
      ∧ Owni (numE .u32) 31 w' w7.heap.size A i c (wordsOf i (d.drop 2))) (fun y => (k - y.1).toNat) ⟨0, none, 0, by omega, rfl, by omega, by simp [wordsOf], he7, Nat.le_refl _, hrd7, hb1, Owni.nil _ _ _⟩ ?_
  rintro _ w8 ⟨i, A, c, hi, rfl, hdl8, hok, he8, hz8, hrd8, hb8, ho8⟩
  dsimp only
  by_cases hlt : i < k
  · refine splitW_t (decide_eq_true (by omega)) ?_
    refine callW_of (number_calls (k := 4) hrd8 (by omega) (by omega)) ?_
    rintro _ w9 ⟨rfl, hrd9, hg9⟩
    have hb9 := hb8.grown hg9 (by simp; omega)
    have hrdlt := hrd8.lt
    have hrb7 : rb < w7.heap.size := by have := hrd7.lt; omega
    have ho9 := ho8.grown hg9 (fun j hj e => by injection hj with hj; have := ho8.row _ e; omega)
    have he9 : Ext w w9 := he8.grown hg9 (fun j hj => by injection hj with hj; have := he4.size; omega)
    refine ⟨(((rd (d.drop (2 + 4 * i)) 4).1 : Int), (rd (d.drop (2 + 4 * i)) 4).2.1, ()), rfl, ?_⟩
    dsimp only
    by_cases hshort : d.length < 2 + 4 * i + 4
    · have e2 : rd (d.drop (2 + 4 * i)) 4 = (0, 7, d.drop (2 + 4 * i)) := by unfold rd; rw [if_pos (by rw [List.length_drop]; omega)]
      rw [e2]
      refine splitW_t (by rfl) (setP page0 (none, 0, 0) hb9 (by rfl) (by rfl) fun w10 _ hx _ _ => ?_)
      rw [if_neg (fun hc => by have := hc.2.1; rw [hk] at this; omega)]
      exact pgRet_bad (hx w he9 (by omega)) 10
    have e2 : rd (d.drop (2 + 4 * i)) 4 = (lev ((d.drop (2 + 4 * i)).take 4), 0, (d.drop (2 + 4 * i)).drop 4) := by unfold rd; rw [if_neg (by rw [List.length_drop]; omega)]
    have hn32 : lev ((d.drop (2 + 4 * i)).take 4) < 4294967296 := by
      have := rd_lt4 (d.drop (2 + 4 * i))
      rw [e2] at this
      exact this
    rw [e2] at hrd9 ⊢
    dsimp only at hrd9 ⊢
    refine splitW_f (by rfl) ?_
    have hmem : ∀ (hlen : 2 + 4 * k ≤ d.length), lev ((d.drop (2 + 4 * i)).take 4) ∈ kidsOf d := by
      intro _
      unfold kidsOf wordsOf
      rw [hk]
      refine List.mem_map.2 ⟨i, List.mem_range.2 hlt, ?_⟩
      rw [List.drop_drop]
    generalize hn : lev ((d.drop (2 + 4 * i)).take 4) = n at *
    refine splitW_i (fun hq => ?_) (fun hq => ?_)
    · have hq := of_decide_eq_true hq
      refine setP page0 (none, 0, 0) hb9 (by rfl) (by rfl) fun w10 _ hx _ _ => ?_
      rw [if_neg (fun hc => by have h1 := hc.2.1; rw [hk] at h1; have := hc.2.2 n (hmem h1); omega)]
      exact pgRet_bad (hx w he9 (by omega)) 10
    have hq2 := of_decide_eq_false hq
    obtain ⟨t, hbx⟩ := (h.ext he9).box
    refine ptr_i (boxE 3 S.sup.blocks hbx (by rfl) (by rfl) ?_)
    have eb : IntKind.wrap .u64 S.sup.blocks = (S.N : Int) := by rw [hbl, wrap_u64_nat (by omega)]
    rw [eb]
    refine splitW_i (fun hq => ?_) (fun hq => ?_)
    · have hq := of_decide_eq_true hq
      refine setP page0 (none, 0, 0) hb9 (by rfl) (by rfl) fun w10 _ hx _ _ => ?_
      rw [if_neg (fun hc => by have h1 := hc.2.1; rw [hk] at h1; have := hc.2.2 n (hmem h1); omega)]
      exact pgRet_bad (hx w he9 (by omega)) 10
    have hq3 := of_decide_eq_false hq
    refine boxF (l := .slc) 1 (A, i, c) hb9 (by rfl) ?_
    dsimp only
    rw [wrap_u32_nat (by omega)]
    have hle := ho9.le
    refine append_newi (E := numE .u32) (ys := [n]) (by rfl) rfl elem_u32 ho9 (by have := hg9.size; omega) (by omega) (by omega) ?_
    intro A' c' w10 ho10 hg10
    have hx10 : ∀ j, orow A = some j → w7.heap.size ≤ j := fun j hj => ho9.row j hj
    have hb10 := hb9.grown hg10.grown (fun e => by have := hx10 r1 e.symm; omega)
    have hrd10 := hrd9.grown hg10.grown (fun j hj => by have := hx10 j hj; omega)
    have he10 : Ext w w10 := he9.grown hg10.grown (fun j hj => by have := hx10 j hj; have := he7.size; omega)
    rw [add_mk]
    refine stW_blk hb10 (by show 0 + 1 < 3; omega) ?_
    have hg11 := set_grown w10 r1 (0 + 1) (.slice A' (i + 1) c')
    have hb11 := hb10.set (0 + 1) (.slice A' (i + 1) c')
    have ho11 := ho10.grown hg11 (fun j hj e => by injection hj with hj; have := ho10.row _ e; omega)
    have ew : wordsOf (i + 1) (d.drop 2) = wordsOf i (d.drop 2) ++ [n] := by rw [wordsOf_succ, List.drop_drop, hn]
    refine ⟨⟨i + 1, A', c', by omega, by rw [wrap_u64, show ((i : Int) + 1) % 18446744073709551616 = ((i + 1 : Nat) : Int) by omega], by omega, ?_, he10.grown hg11 (fun j hj => by injection hj with hj; omega), ?_, ?_, hb11, by rw [ew]; exact ho11⟩, by rw [wrap_u64]; omega⟩
    · rw [ew]
      intro a ha
      rcases List.mem_append.1 ha with ha | ha
      · exact hok a ha
      · rw [List.mem_singleton.1 ha]; omega
    · exact Nat.le_trans (Nat.le_trans (Nat.le_trans hz8 hg9.size) hg10.grown.size) hg11.size
    · have := hrd10.grown hg11 (fun j hj => by injection hj with hj; left; omega)
      rw [List.drop_drop] at this
      rw [show 2 + 4 * (i + 1) = 2 + 4 * i + 4 by omega]
      exact this
  obtain rfl : i = k := by omega
  refine splitW_f (decide_eq_false (by omega)) ?_
  refine callW_of (left_calls hrd8) ?_
  rintro _ w9 ⟨rfl, hw9⟩
  refine ⟨_, rfl, ?_⟩
  rw [hw9]
  refine callW_of (bytes_calls hrd8 (by rw [List.length_drop]; omega)) ?_
  rintro _ w10 ⟨A2, n2, c2, rfl, hs10, hg10⟩
  refine ⟨((A2, n2, c2), (rd (d.drop (2 + 4 * i)) (d.drop (2 + 4 * i)).length).2.1, ()), rfl, ?_⟩
  have e3 : rd (d.drop (2 + 4 * i)) (d.drop (2 + 4 * i)).length = (lev ((d.drop (2 + 4 * i)).take (d.drop (2 + 4 * i)).length), 0, (d.drop (2 + 4 * i)).drop (d.drop (2 + 4 * i)).length) := by unfold rd; rw [if_neg (by omega)]
  rw [if_neg (by omega), List.take_length] at hs10
  rw [e3]
  dsimp only
  have hrb7 : rb < w7.heap.size := by have := hrd7.lt; omega
  have hb10 := hb8.grown hg10 (by simp; omega)
  have ho10 := ho8.grown hg10 (fun j hj e => by injection hj with hj; have := ho8.row _ e; omega)
  have he10 : Ext w w10 := he8.grown hg10 (fun j hj => by injection hj with hj; have := he4.size; omega)
  refine conv_str (e := 5) (by kernel_rfl) (by kernel_rfl) (by kernel_rfl) hs10 ?_
  rw [add_mk]
  refine stW_blk hb10 (by show 0 + 2 < 3; omega) ?_
  have hg11 := set_grown w10 r1 (0 + 2) (.string (mkB (d.drop (2 + 4 * i))))
  have hb11 : Blk (w10.setCell ⟨r1, 0 + 2, none⟩ (.string (mkB (d.drop (2 + 4 * i))))) r1 (pgV (f.1, wordsOf i (d.drop 2), mkB (d.drop (2 + 4 * i))) (A, i, c)) _ := hb10.set (0 + 2) (.string (mkB (d.drop (2 + 4 * i))))
  have ho11 := ho10.grown hg11 (fun j hj e => by injection hj with hj; have := ho10.row _ e; omega)
  have he11 := he10.grown hg11 (fun j hj => by injection hj with hj; omega)
  refine retP _ (A, i, c) hb11 fun w12 hx hs12 hz12 => ?_
  have hxx := hx _ (Ext.refl _)
  have ekd : kidsOf d = wordsOf i (d.drop 2) := by unfold kidsOf; rw [hk]
  rw [if_pos ⟨by omega, by rw [hk]; omega, by rw [ekd]; exact hok⟩, ekd]
  have he12 := hx w he11 (by omega)
  refine ⟨(A, i, c), rfl, ?_, he12⟩
  refine Owni.lower ?_ (show w.heap.size ≤ w7.heap.size from he7.size)
  refine ho11.keepE (r := r1) (by omega) hz12 ?_ ?_ ?_ hs12
  · exact he12.os.trans he11.os.symm
  · exact he12.tape.trans he11.tape.symm
  · exact he12.output.trans he11.output.symm
theorem dread_calls (h : SpM w b db S F Fd x hb hr nb nr m) (k : Int) :
    Calls Tryz.prog 12 #[.pointer (some ⟨db, 0, none⟩), .int .i64 k] w (Ret fun v w' => v = .tuple #[.string (S.dev.read k).1, .int .i64 (S.dev.read k).2] ∧ Ext w w') := read_calls h.dev k
theorem Dev.Ok.read {d : Dev} (h : d.Ok) {k : Int} (h0 : 0 ≤ k) (h1 : k < d.blocks) : (d.read k).2 = 0 ∧ ((d.read k).1.size : Int) = d.size := by
  unfold Dev.read
  rw [if_neg (fun hh => hh ⟨h0, h1⟩)]
  refine ⟨rfl, ?_⟩
  have hl := puts_len d.pen d.dur
  have hlen := h.len
  have he := puts_each (n := d.size) d.pen d.dur h.each (fun p hp => (h.pend p hp).2.2)
  have hk : k.toNat < (d.pen.foldl Go.Proofs.YtjdmggaeagnolaaGreatDoor.V.put d.dur).length := by rw [hl]; omega
  show (((d.pen.foldl Go.Proofs.YtjdmggaeagnolaaGreatDoor.V.put d.dur).getD k.toNat ByteArray.empty).size : Int) = _
  rw [List.getD_eq_getElem?_getD, List.getElem?_eq_getElem hk]
  exact he _ (List.getElem_mem hk)
theorem asked_iff {S : Spa} {n : Nat} : S.asked n = true ↔ 2 ≤ n ∧ n < S.N ∧ n ∉ S.sup.pages := by simp [Spa.asked]
theorem getS_calls (h : SpM w b db S F Fd x hb hr nb nr m) {n : Nat} (hn : n < 4294967296) :
    Calls Tryz.prog 25 #[.pointer (some ⟨b, 0, none⟩), .int .u32 (n : Int)] w (Ret (PgRet w (S.get n))) := by
  have hdim := h.dims
  have hN := hdim.n
  have hbl := hdim.blocks
  have hsz := hdim.size
  apply calls25
  unfold S25 Spa.get
  refine new_i fun r1 w1 hb1 he1 hr1 hz1 => ?_
  have hb1 : Blk w1 r1 (pgV page0 (none, 0, 0)) _ := hb1
  refine splitW_f (by rfl) ?_
  refine callW_of (asked_calls (h.ext he1) hn) ?_
  rintro _ w2 ⟨rfl, hw2⟩
  refine ⟨_, rfl, ?_⟩
  rw [hw2]
  refine splitW_i (fun hq => ?_) (fun hq => ?_)
  · have hq : S.asked n = false := by simpa using hq
    rw [if_pos hq]
    refine setP page0 (none, 0, 0) hb1 (by rfl) (by rfl) fun w3 _ hx _ _ => ?_
    exact pgRet_bad (hx w he1 (by omega)) 2
  have hq : S.asked n = true := by simpa using hq
  rw [if_neg (by rw [hq]; simp)]
  obtain ⟨t, hbx⟩ := (h.ext he1).box
  refine ptr_i (boxE (l := .ptr) 8 (some ⟨nb, 0, none⟩) hbx (by rfl) (by rfl) ?_)
  refine callW_of (nowget_calls (h.ext he1) n hn) ?_
  rintro _ w3 ⟨rfl, hw3⟩
  refine ⟨_, rfl, ?_⟩
  rw [hw3]
  refine splitW_i (fun hz => ?_) (fun hz => ?_)
  · have hz : S.now.getD n 0 = 0 := by have := beq_iff_eq.1 hz; omega
    rw [if_pos hz]
    refine setP page0 (none, 0, 0) hb1 (by rfl) (by rfl) fun w3 _ hx _ _ => ?_
    exact pgRet_bad (hx w he1 (by omega)) 8
  have hz : ¬ S.now.getD n 0 = 0 := by have := beq_eq_false_iff_ne.1 hz; omega
  rw [if_neg hz]
  refine ptr_i (box0 (l := .ptr) (some ⟨db, 0, none⟩) hbx (by rfl) ?_)
  rw [wrap_i64 (by omega) (by omega)]
  refine callW_of (dread_calls (h.ext he1) (n : Int)) ?_
  rintro _ w4 ⟨rfl, he4⟩
  obtain ⟨a1, a2, a3⟩ := asked_iff.1 hq
  have hrd := h.dev.ok.read (k := (n : Int)) (by omega) (by rw [← h.ok.blocks]; omega)
  refine ⟨((S.dev.read n).1, (S.dev.read n).2, ()), rfl, ?_⟩
  rw [hrd.1]
  refine splitW_f (by rfl) ?_
  have hb1 := hb1.ext he4
  have he14 := he1.trans he4
  have hr14 : r1 < w4.heap.size := hb1.lt
  refine callW_of (page_calls_s (h.ext he14) (S.dev.read n).1 (by have := hrd.2; have := h.ok.size; omega)) ?_
  rintro _ w5 ⟨y, rfl, ho5, he5⟩
  refine ⟨(pgT (pageR S.N (B (S.dev.read n).1)).1 y, (pageR S.N (B (S.dev.read n).1)).2, ()), rfl, ?_⟩
  have he15 := he14.trans he5
  refine setP (pageR S.N (B (S.dev.read n).1)).1 y (hb1.ext he5) (by rfl) (by rfl) fun w6 _ hx hs6 hz6 => ?_
  have he16 := hx w he15 (by omega)
  refine ⟨y, rfl, ?_, he16⟩
  refine Owni.lower ?_ (show w.heap.size ≤ w4.heap.size from he14.size)
  exact ho5.keepE (r := r1) (by omega) hz6 (he16.os.trans he15.os.symm) (he16.tape.trans he15.tape.symm) (he16.output.trans he15.output.symm) hs6
end Go.Proofs.YtjdmggaeagnolaaGreatDoor.V
/- Contracts of the package space: write, Put. -/
namespace Go.Proofs.YtjdmggaeagnolaaGreatDoor.V
open Go Go.Proofs Go.RowKit Crc
theorem writeF_calls {w : World} {db : Nat} {d : Dev} {Fd : Nat → Prop} (h : DevAt w db d Fd) (k : Nat) (hk : k < 4294967296) (f : Fra) (hg : f.2.1 < 18446744073709551616) (hn : d.pen.length ≤ 1000000) :
    Calls Tryz.prog 59 #[.pointer (some ⟨db, 0, none⟩), .int .u32 (k : Int), .agg (fV f).toArray] w (Ret fun v w' => v = .int .i64 (writeF d k f).2 ∧ Step w db Fd (writeF d k f).1 w') := by
  apply calls59
  unfold S59 writeF
  refine new_i fun r1 w1 hb1 he1 _ _ => ?_
  have hb1 : Blk w1 r1 (fV f) 87 := hb1
  refine draw_i fun w2 he2 _ _ => ?_
  have hb2 := hb1.ext he2
  have he := he1.trans he2
  refine boxA (ls := fLs) (fT f) hb2 rfl ?_
  refine callW_of (geo_calls (h.ext he)) ?_
  rintro _ w3 ⟨rfl, he3⟩
  refine ⟨(d.size, d.blocks, ()), rfl, ?_⟩
  have hb3 := hb2.ext he3
  have he3 := he.trans he3
  refine ⟨fun l hl p hp => ?_, ?_⟩
  · simp only [List.mem_singleton] at hl
    subst hl
    simp only [List.mem_cons, List.not_mem_nil, or_false] at hp
    rcases hp with rfl | rfl | rfl
    · exact (hb3.cell 0).trans rfl
    · exact (hb3.cell 1).trans rfl
    · exact (hb3.cell 2).trans rfl
  refine callW_of (fput_calls w3 d.size hg) ?_
  rintro _ w4 ⟨rfl, he4⟩
  refine ⟨(mkB (putR d.size f).1, (putR d.size f).2, ()), rfl, ?_⟩
  have he4 := he3.trans he4
  have stay : ∀ {w' : World}, Ext w w' → Step w db Fd d w' := fun e => ⟨Fd, h.ext e, fun k hk => .inl hk, Only.of_ext e⟩
  refine splitW_i (fun hq => ?_) (fun hq => ?_)
  · have hq := bne_iff_ne.1 hq
    rw [if_pos hq]
    exact ⟨rfl, stay he4⟩
  · have hq := bne_eq_false_iff_eq.1 hq
    rw [if_neg (fun hh => hh hq)]
    rw [wrap_i64 (by omega) (by omega)]
    refine callW_of (write_calls (h.ext he4) (k : Int) (mkB (putR d.size f).1) hn) ?_
    rintro _ w5 ⟨rfl, F', g1, g2, g3⟩
    refine ⟨_, rfl, rfl, F', g1, fun j hj => ?_, Only.trans (Only.of_ext he4) g3 (fun j hj => .inl hj)⟩
    rcases g2 j hj with e | e
    · exact .inl e
    · exact .inr (Nat.le_trans he4.size e)
variable {w w' : World} {b db : Nat} {S : Spa} {F Fd : Nat → Prop} {x : SLC} {hb hr nb nr : Nat} {m : MkL}
theorem put1_calls (h : SpM w b db S F Fd x hb hr nb nr m) {r k : Nat} (hr1 : Blk w r [.pointer (some ⟨b, 0, none⟩)] 39) (hk : k < 4294967296) :
    Calls Tryz.prog 55 ([Value.int .u32 (k : Int)] ++ (#[Value.pointer (some ⟨r, 0, none⟩)] : Array Value).toList).toArray w (Ret fun v w' => v = .bool (!S.asked k) ∧ w' = w) := by
  apply calls55
  unfold S55
  refine ldW_blk (x := some ⟨b, 0, none⟩) hr1 (by rfl) ?_
  refine callW_of (asked_calls h hk) ?_
  rintro _ w1 ⟨rfl, rfl⟩
  exact ⟨_, rfl, rfl, rfl⟩
theorem put2_calls (h : SpM w b db S F Fd x hb hr nb nr m) {r k : Nat} (hr1 : Blk w r [.pointer (some ⟨b, 0, none⟩)] 39) (hk : k < 4294967296) :
    Calls Tryz.prog 56 ([Value.int .u32 (k : Int)] ++ (#[Value.pointer (some ⟨r, 0, none⟩)] : Array Value).toList).toArray w (Ret fun v w' => v = .bool (decide (S.now.getD k 0 = 0)) ∧ w' = w) := by
  apply calls56
  unfold S56
  obtain ⟨t, hbx⟩ := h.box
  refine ldW_blk (x := some ⟨b, 0, none⟩) hr1 (by rfl) (ptr_i (boxE (l := .ptr) 8 (some ⟨nb, 0, none⟩) hbx (by rfl) (by rfl) ?_))
  refine callW_of (nowget_calls h k hk) ?_
  rintro _ w1 ⟨rfl, rfl⟩
  refine ⟨_, rfl, ?_, rfl⟩
  congr 1
  rw [Bool.eq_iff_iff, beq_iff_eq, decide_eq_true_iff]
  omega
theorem any_asked {S : Spa} {l : List Nat} : l.any (fun k => !S.asked k) = true ↔ ∃ k ∈ l, S.asked k = false := by simp
theorem any_zero {S : Spa} {l : List Nat} : l.any (fun k => decide (S.now.getD k 0 = 0)) = true ↔ ∃ k ∈ l, S.now.getD k 0 = 0 := by simp
theorem Sli.only' {α : Type} {E : Enc α} {F : Nat → Prop} {w w' : World} {A : Option Addr} {n : Nat} {xs : List α} (h : Sli E w A n xs) (k : Only F w w') (hr : 0 < n → ∀ a, A = some a → ¬ F a.block) : Sli E w' A n xs := by
  rcases Nat.eq_zero_or_pos n with e | e
  · subst e
    have := h.len
    rw [List.eq_nil_of_length_eq_zero this]
    exact Sli.nil w' A
  · exact h.only k (hr e)
theorem putS_calls0 (h : SpM w b db S F Fd x hb hr nb nr m) (h01 : S.now.getD 0 0 ≠ 0 ∧ S.now.getD 1 0 ≠ 0) (hgen : S.sup.gen + 1 < 18446744073709551616) (hpen : S.dev.pen.length ≤ 1000000)
    {A : Option Addr} {n c : Nat} (p : Page) (hs : Sli (numE .u32) w A n p.2.1) (hk32 : ∀ k ∈ p.2.1, k < 4294967296) (hA : 0 < n → ∀ a, A = some a → ¬ F a.block) (hds : p.2.2.size ≤ 1000000000) :
    Calls Tryz.prog 24 #[.pointer (some ⟨b, 0, none⟩), .agg (pgV p (A, n, c)).toArray] w (Ret fun v w' => v = .tuple #[.int .u32 ((S.put p).2.1 : Int), .int .i64 (S.put p).2.2] ∧ StepS w b db F (S.put p).1 w') := by
  have hdim := h.dims
  have hN := hdim.n
  have hsz := hdim.size
  have hroom := hdim.room
  have hFlt := h.lt
  have hl := hs.len
  have hle := hs.le
  apply calls24
  unfold S24
  refine new_i fun r1 w1 hb1 he1 hr1 hz1 => ?_
  refine new_i fun r2 w2 hb2 he2 hr2 hz2 => ?_
  have hb1 := hb1.ext he2
  have he := he1.trans he2
  have hb2 : Blk w2 r2 (pgV p (A, n, c)) 69 := hb2
  have hS := h.ext he
  have hs2 := hs.ext he
  have hz := he1.size
  have stay : ∀ {w' : World}, Ext w w' → StepS w b db F S w' := fun e => ⟨F, ⟨Fd, x, hb, hr, nb, nr, m, h.ext e⟩, fun k hk => .inl hk, Only.of_ext e⟩
  refine ldW_blk (x := some ⟨b, 0, none⟩) hb1 (by rfl) (splitW_f (by rfl) ?_)
  have e1 : ∀ e : Int, S.putE p = e → e ≠ 0 → (fun v w' => v = Value.tuple #[.int .u32 ((S.put p).2.1 : Int), .int .i64 (S.put p).2.2] ∧ StepS w b db F (S.put p).1 w') = fun v w' => v = Value.tuple #[.int .u32 (0 : Int), .int .i64 e] ∧ StepS w b db F S w' := by
    intro e he0 hne
    unfold Spa.put
    rw [if_pos (by rw [he0]; exact hne), he0]
    rfl
  refine joinW_s (fun y w' => y = (decide (p.1.toNat < 3 ∨ p.2.1.length > 65535 ∨ (∃ k ∈ p.2.1, S.asked k = false)), ()) ∧ w' = w2) ?_ (fun J hJ => ?_)
  rotate_left
  · refine box0 ((p.1.toNat : Nat) : Int) hb2 (by rfl) ?_
    refine splitW_i (fun hq => ?_) (fun hq => ?_)
    · have hq := of_decide_eq_true hq
      exact hJ _ _ ⟨by rw [decide_eq_true (.inl (by omega))], rfl⟩
    have hq := of_decide_eq_false hq
    refine boxF (l := .slc) 1 (A, n, c) hb2 (by rfl) (splitW_i (fun hq2 => ?_) (fun hq2 => ?_))
    · have hq2 := of_decide_eq_true hq2
      exact hJ _ _ ⟨by rw [decide_eq_true (.inr (.inl (by dsimp only at hq2; omega)))], rfl⟩
    have hq2 := of_decide_eq_false hq2
    refine boxF (l := .slc) 1 (A, n, c) hb2 (by rfl) ?_
    refine callW_of (contfn_calls (c := c) (q := fun k => !S.asked k) hs2 (by kernel_rfl) (fun k hk => put1_calls hS hb1 (hk32 k hk))) ?_
    rintro _ w3 ⟨rfl, hw3⟩
    refine ⟨_, rfl, hJ _ _ ⟨?_, hw3⟩⟩
    congr 1
    rw [Bool.eq_iff_iff, decide_eq_true_iff, any_asked]
    dsimp only at hq2
    constructor
    · intro hh; exact .inr (.inr hh)
    · rintro (hh | hh | hh)
      · omega
      · omega
      · exact hh
  rintro y w3 ⟨rfl, hw3⟩
  rw [hw3]
  refine splitW_i (fun hq => ?_) (fun hq => ?_)
  · have hq := of_decide_eq_true hq
    have := e1 2 (by unfold Spa.putE; rw [if_pos hq]) (by decide)
    rw [show (Value.tuple #[.int .u32 (0 : Int), .int .i64 (2 : Int)]) = Value.tuple #[.int .u32 (0 : Int), .int .i64 (2 : Int)] from rfl]
    exact (congrFun (congrFun this _) _).mpr ⟨rfl, stay he⟩
  have hq1 := of_decide_eq_false hq
  refine boxF (l := .slc) 1 (A, n, c) hb2 (by rfl) ?_
  refine callW_of (contfn_calls (c := c) (q := fun k => decide (S.now.getD k 0 = 0)) hs2 (by kernel_rfl) (fun k hk => put2_calls hS hb1 (hk32 k hk))) ?_
  rintro _ w4 ⟨rfl, hw4⟩
  refine ⟨_, rfl, ?_⟩
  rw [hw4]
  refine splitW_i (fun hq => ?_) (fun hq => ?_)
  · have := e1 8 (by unfold Spa.putE; rw [if_neg hq1, if_pos (any_zero.1 hq)]) (by decide)
    exact (congrFun (congrFun this _) _).mpr ⟨rfl, stay he⟩
  have hq2 : ¬ ∃ k ∈ p.2.1, S.now.getD k 0 = 0 := fun hh => by rw [any_zero.2 hh] at hq; cases hq
  have hr0 : S.room 0 = S.sup.size - 18 := by unfold Spa.room; rw [hroom, if_neg (by omega)]; omega
  refine joinW_s (fun y w' => y = (decide ((p.2.1.length : Int) > S.room 0 / 4 ∨ (p.2.2.size : Int) > S.room p.2.1.length), ()) ∧ Ext w2 w') ?_ (fun J hJ => ?_)
  rotate_left
  · refine draw_i fun w5 he5 _ _ => ?_
    refine boxF (l := .slc) 1 (A, n, c) (hb2.ext he5) (by rfl) ?_
    refine ldW_blk (x := some ⟨b, 0, none⟩) (hb1.ext he5) (by rfl) ?_
    refine callW_of (roomC_calls (hS.ext he5) (k := 0) (by omega) (by omega)) ?_
    rintro _ w6 ⟨rfl, he6⟩
    have he56 := he5.trans he6
    refine ⟨_, rfl, heldF (hb2.ext he56) (by rfl) ?_⟩
    rw [Int.tdiv_eq_ediv_of_nonneg (by omega), wrap_i64 (x := S.room 0 / 4) (by omega) (by omega)]
    dsimp only
    refine splitW_i (fun hq => ?_) (fun hq => ?_)
    · have hq := of_decide_eq_true hq
      exact hJ _ _ ⟨by rw [decide_eq_true (.inl (by omega))], he56⟩
    have hq := of_decide_eq_false hq
    refine boxF 2 p.2.2 (hb2.ext he56) (by rfl) ?_
    refine ldW_blk (x := some ⟨b, 0, none⟩) (hb1.ext he56) (by rfl) ?_
    refine boxF (l := .slc) 1 (A, n, c) (hb2.ext he56) (by rfl) ?_
    dsimp only
    refine callW_of (roomC_calls (hS.ext he56) (k := (n : Int)) (by omega) (by omega)) ?_
    rintro _ w7 ⟨rfl, he7⟩
    have he57 := he56.trans he7
    refine ⟨_, rfl, heldF (hb2.ext he57) (by rfl) ?_⟩
    refine hJ _ _ ⟨?_, he57⟩
    congr 1
    rw [hl]
    exact decide_eq_decide.2 ⟨fun hh => .inr hh, fun hh => by rcases hh with hh | hh; omega; exact hh⟩
  rintro y w5 ⟨rfl, he25⟩
  have he5 := he.trans he25
  have hb1 := hb1.ext he25
  have hb2 := hb2.ext he25
  refine splitW_i (fun hq => ?_) (fun hq => ?_)
  · have hq := of_decide_eq_true hq
    have := e1 3 (by unfold Spa.putE; rw [if_neg hq1, if_neg hq2, if_pos hq]) (by decide)
    exact (congrFun (congrFun this _) _).mpr ⟨rfl, stay he5⟩
  have hq3 := of_decide_eq_false hq
  refine draw_i fun w6 he6 _ _ => ?_
  have hb1 := hb1.ext he6
  have hb2 := hb2.ext he6
  have he6 := he5.trans he6
  obtain ⟨t, hbx⟩ := (h.ext he6).box
  refine ldW_blk (x := some ⟨b, 0, none⟩) hb1 (by rfl) ?_
  refine ldW_blk (x := some ⟨b, 0, none⟩) hb1 (by rfl) (ptr_i (boxE (l := .slc) 5 x hbx (by rfl) (by rfl) ?_))
  refine callW_of (freeN_calls (h.ext he6)) ?_
  rintro _ w7 ⟨rfl, he7⟩
  refine ⟨_, rfl, ?_⟩
  have hb1 := hb1.ext he7
  have hb2 := hb2.ext he7
  have he7 := he6.trans he7
  obtain ⟨t, hbx⟩ := (h.ext he7).box
  refine ⟨fun l hl' q hq' => ?_, ?_⟩
  · simp only [List.mem_cons, List.not_mem_nil, or_false] at hl'
    rcases hl' with rfl | rfl <;> (simp only [List.mem_cons, List.not_mem_nil, or_false] at hq'; subst hq')
    · exact (hbx.cell 5).trans rfl
    · exact (hb1.cell 0).trans rfl
  have hpl := h.pgs.len
  refine splitW_i (fun hq => ?_) (fun hq => ?_)
  · have hq := of_decide_eq_true hq
    have := e1 9 (by unfold Spa.putE; rw [if_neg hq1, if_neg hq2, if_neg hq3, if_pos (by omega)]) (by decide)
    exact (congrFun (congrFun this _) _).mpr ⟨rfl, stay he7⟩
  have hq4 := of_decide_eq_false hq
  have hE0 : S.putE p = 0 := by unfold Spa.putE; rw [if_neg hq1, if_neg hq2, if_neg hq3, if_neg (by omega)]
  refine ldW_blk (x := some ⟨b, 0, none⟩) hb1 (by rfl) ?_
  refine callW_of (takeS_calls (h.ext he7) h01) ?_
  rintro _ w8 ⟨rfl, hS8, hO8⟩
  refine ⟨((S.takeN : Int), S.takeE, ()), rfl, ?_⟩
  dsimp only
  have hnF : ∀ j, w.heap.size ≤ j → ¬ F j := fun j hj hf => by have := hFlt j hf; omega
  have hb1 := hb1.only hO8 (hnF r1 (by omega))
  have hb2 := hb2.only hO8 (hnF r2 (by omega))
  have hr1lt : r1 < w8.heap.size := hb1.lt
  have hr2lt : r2 < w8.heap.size := hb2.lt
  have hs8 := (hs.ext he7).only' hO8 hA
  have o8 : Only F w w8 := Only.trans (Only.of_ext he7) hO8 (fun j hj => .inl hj)
  refine splitW_i (fun hq => ?_) (fun hq => ?_)
  · have hq := bne_iff_ne.1 hq
    have e2 : S.put p = (S, 0, S.takeE) := by unfold Spa.put; rw [if_neg (by rw [hE0]; simp), if_pos hq]
    have e3 : S.takeL = S.now := by
      unfold Spa.takeE at hq
      unfold Spa.takeL
      split at hq
      · exact absurd rfl hq
      · rename_i hh; rw [if_neg hh]
    rw [e2]
    rw [e3] at hS8
    exact ⟨rfl, F, ⟨Fd, x, hb, hr, nb, nr, m, hS8⟩, fun k hk => .inl hk, o8⟩
  have hT0 := bne_eq_false_iff_eq.1 hq
  have hTN : S.takeN < S.N := by
    unfold Spa.takeE at hT0
    unfold Spa.takeN
    have := h.ok.now
    split at hT0
    · rename_i hh; rw [if_pos hh]; omega
    · cases hT0
  have hkl : (p.2.1.length : Int) ≤ S.room 0 / 4 := by
    by_cases hh : S.room 0 / 4 < p.2.1.length
    · exact absurd (Or.inl hh) hq3
    · omega
  refine boxF (l := .slc) 1 (A, n, c) hb2 (by rfl) ?_
  dsimp only
  rw [wrap_u64_nat (by omega)]
  refine callW_of (octput_calls (bs := []) (v := n) (k := 2) (Own.nil 5 w8 w8.heap.size) (Nat.le_refl _) (by omega) (by omega) (by omega) (by omega)) ?_
  rintro _ w9 ⟨⟨A1, n1, c1⟩, rfl, ho9, hg9⟩
  refine ⟨(A1, n1, c1), rfl, ?_⟩
  have hg9' : Ext w8 w9 := (Ext.refl w8).grown hg9.grown (fun j hj => by cases hj)
  have hb1 := hb1.ext hg9'
  have hb2 := hb2.ext hg9'
  refine boxF (l := .slc) 1 (A, n, c) hb2 (by rfl) ?_
  dsimp only
  have h8 : w.heap.size ≤ w8.heap.size := o8.2.2.2.1
  have ez : (([] : List UInt8) ++ le 2 n) = le 2 p.2.1.length ++ wordsB (p.2.1.take 0) := by rw [hl]; simp [wordsB]
  rw [ez] at ho9
  refine loopW_i (fun y w' => ∃ (i : Nat) (A2 : Option Addr) (n2 c2 : Nat), i ≤ n ∧ y = ((A2, n2, c2), (i : Int), ()) ∧ Ext w8 w' ∧ Own 5 w' w8.heap.size A2 n2 c2 (bV (le 2 p.2.1.length ++ wordsB (p.2.1.take i)))) (fun y => (n - y.2.1).toNat) ⟨0, A1, n1, c1, by omega, rfl, hg9', ho9⟩ ?_
  rintro _ w10 ⟨i, A2, n2, c2, hi, rfl, he10, ho10⟩
  dsimp only
  have hn2 : n2 = 2 + 4 * i := by
    have := ho10.len
    rw [length_bV, List.length_append, le_length, wordsB_length, List.length_take] at this
    omega
  by_cases hlt : i < n
  · refine splitW_t (decide_eq_true (by omega)) ?_
    refine idx_num (hs8.ext he10) (by omega) (by omega) ?_
    rw [Int.toNat_natCast]
    have e : p.2.1[i]? = some (p.2.1.getD i 0) := by rw [List.getD_eq_getElem?_getD, List.getElem?_eq_getElem (by omega)]; rfl
    have hk := hk32 _ (List.mem_of_getElem? e)
    rw [wrap_u64_nat (by omega)]
    refine callW_of (octput_calls (v := p.2.1.getD i 0) (k := 4) ho10 he10.size (by omega) (by omega) (by omega) (by omega)) ?_
    rintro _ w11 ⟨⟨A3, n3, c3⟩, rfl, ho11, hg11⟩
    refine ⟨(A3, n3, c3), rfl, ?_⟩
    rw [List.append_assoc, ← wordsB_take (by omega)] at ho11
    refine ⟨⟨i + 1, A3, n3, c3, by omega, by rw [wrap_i64 (by omega) (by omega)]; rfl, he10.grown hg11.grown (fun j hj => ho10.row' j hj), ho11⟩, by rw [wrap_i64 (by omega) (by omega)]; omega⟩
  obtain rfl : i = n := by omega
  refine splitW_f (decide_eq_false (by omega)) ?_
  rw [List.take_of_length_le (by omega)] at ho10
  refine draw_i fun w11 he11 _ _ => ?_
  have ho11 := ho10.ext he11
  have he11 := he10.trans he11
  have hb1 : Blk w11 r1 _ _ := (Blk.at_ hb1 (show w11.heap[r1]? = w9.heap[r1]? by rw [he11.block r1 hr1lt, hg9'.block r1 hr1lt]))
  have hb2 : Blk w11 r2 _ _ := (Blk.at_ hb2 (show w11.heap[r2]? = w9.heap[r2]? by rw [he11.block r2 hr2lt, hg9'.block r2 hr2lt]))
  obtain ⟨t, hbx⟩ := (hS8.ext he11).box
  refine ldW_blk (x := some ⟨b, 0, none⟩) hb1 (by rfl) (ptr_i (box0 (l := .ptr) (some ⟨db, 0, none⟩) hbx (by rfl) ?_))
  refine box0 ((p.1.toNat : Nat) : Int) hb2 (by rfl) ?_
  refine ldW_blk (x := some ⟨b, 0, none⟩) hb1 (by rfl) (ptr_i (boxE 1 (S.sup.gen : Int) hbx (by rfl) (by rfl) ?_))
  refine boxF 2 p.2.2 hb2 (by rfl) ?_
  refine conv_str (e := 5) (by kernel_rfl) (by kernel_rfl) (by kernel_rfl) ho11.sl ?_
  refine ⟨fun l hl' q hq' => ?_, ?_⟩
  · simp only [List.mem_cons, List.not_mem_nil, or_false] at hl'
    rcases hl' with rfl | rfl | rfl | rfl | rfl | rfl <;> (simp only [List.mem_cons, List.not_mem_nil, or_false] at hq'; subst hq')
    · exact (hb2.cell 2).trans rfl
    · exact (hbx.cell 1).trans rfl
    · exact (hb1.cell 0).trans rfl
    · exact (hb2.cell 0).trans rfl
    · exact (hbx.cell 0).trans rfl
    · exact (hb1.cell 0).trans rfl
  have hsz1 : (mkB (le 2 p.2.1.length ++ wordsB p.2.1)).size = 2 + 4 * i := by rw [mkB_size, List.length_append, le_length, wordsB_length]; omega
  have hsz1' : (⟨(le 2 p.2.1.length ++ wordsB p.2.1).toArray⟩ : ByteArray).size = 2 + 4 * i := hsz1
  refine guard_i (by rw [hsz1']; show _ ≤ (9223372036854775807 : Int); omega) ?_
  have ecat : (⟨(le 2 p.2.1.length ++ wordsB p.2.1).toArray⟩ : ByteArray) ++ p.2.2 = mkB (pgB p) := B_inj (by rw [B_append, B_mk, B_mkB, pgB, List.append_assoc])
  rw [ecat, show (S.sup.gen : Int) + 1 = ((S.sup.gen + 1 : Nat) : Int) by omega, wrap_u64_nat (by omega)]
  refine callW_of (writeF_calls (hS8.ext he11).dev S.takeN (by omega) (S.frame p) hgen hpen) ?_
  rintro _ w12 ⟨rfl, hst⟩
  refine ⟨_, rfl, ?_⟩
  have hdim2 : (writeF S.dev S.takeN (S.frame p)).1.size = S.dev.size ∧ (writeF S.dev S.takeN (S.frame p)).1.blocks = S.dev.blocks := by
    unfold writeF Dev.write
    split
    · exact ⟨rfl, rfl⟩
    · split
      · exact ⟨rfl, rfl⟩
      · split <;> exact ⟨rfl, rfl⟩
  obtain ⟨F', Fd', hS12, hF12, hO12⟩ := (hS8.ext he11).setDev hst hdim2
  have o11 : Only F w w11 := Only.trans o8 (Only.of_ext (F := F) he11) (fun j hj => .inl hj)
  have fin : StepS w b db F { S with now := S.takeL, dev := (writeF S.dev S.takeN (S.frame p)).1 } w12 := by
    refine ⟨F', ⟨Fd', x, hb, hr, nb, nr, m, hS12⟩, fun k hk => ?_, Only.trans o11 hO12 (fun j hj => .inl hj)⟩
    rcases hF12 k hk with e | e
    · exact .inl e
    · exact .inr (Nat.le_trans o11.2.2.2.1 e)
  refine splitW_i (fun hq => ?_) (fun hq => ?_)
  · have hq := bne_iff_ne.1 hq
    have e2 : S.put p = ({ S with now := S.takeL, dev := (writeF S.dev S.takeN (S.frame p)).1 }, 0, (writeF S.dev S.takeN (S.frame p)).2) := by
      unfold Spa.put; rw [if_neg (by rw [hE0]; simp), if_neg (by rw [hT0]; simp), if_pos hq]
    rw [e2]
    exact ⟨rfl, fin⟩
  · have hq := bne_eq_false_iff_eq.1 hq
    have e2 : S.put p = ({ S with now := S.takeL, dev := (writeF S.dev S.takeN (S.frame p)).1 }, S.takeN, 0) := by
      unfold Spa.put; rw [if_neg (by rw [hE0]; simp), if_neg (by rw [hT0]; simp), if_neg (by rw [hq]; simp)]
    rw [e2]
    exact ⟨rfl, fin⟩
theorem putS_calls (h : SpM w b db S F Fd x hb hr nb nr m) (h01 : S.now.getD 0 0 ≠ 0 ∧ S.now.getD 1 0 ≠ 0) (hgen : S.sup.gen + 1 < 18446744073709551616) (hpen : S.dev.pen.length ≤ 1000000)
    {A : Option Addr} {n c : Nat} (p : Page) (hs : Sli (numE .u32) w A n p.2.1) (hk32 : ∀ k ∈ p.2.1, k < 4294967296) (hA : ∀ a, A = some a → ¬ F a.block) (hds : p.2.2.size ≤ 1000000000) :
    Calls Tryz.prog 24 #[.pointer (some ⟨b, 0, none⟩), .agg (pgV p (A, n, c)).toArray] w (Ret fun v w' => v = .tuple #[.int .u32 ((S.put p).2.1 : Int), .int .i64 (S.put p).2.2] ∧ StepS w b db F (S.put p).1 w') := putS_calls0 h h01 hgen hpen p hs hk32 (fun _ => hA) hds
end Go.Proofs.YtjdmggaeagnolaaGreatDoor.V
/- Counts of references: plain. -/
namespace Go.Proofs.YtjdmggaeagnolaaGreatDoor.V
open Go Go.Proofs Go.RowKit Crc
abbrev PgF := Nat → Page × Int
def usedC (ps c : List Nat) (n : Nat) : Bool := decide (2 ≤ n) && (!(decide (n ∈ ps)) && decide (0 < c.getD n 0))
theorem usedC_iff {ps c : List Nat} {n : Nat} : usedC ps c n = true ↔ 2 ≤ n ∧ n ∉ ps ∧ 0 < c.getD n 0 := by simp [usedC]
abbrev kidsP (pg : PgF) (n : Nat) : List Nat := (pg n).1.2.1
def refC (ps : List Nat) (pg : PgF) (c : List Nat) (x m : Nat) : Nat := if usedC ps c m then (kidsP pg m).count x else 0
def sumC (N : Nat) (ps : List Nat) (pg : PgF) (c : List Nat) (x : Nat) : Nat := ((List.range N).map (refC ps pg c x)).sum
structure WellC (N : Nat) (ps : List Nat) (pg : PgF) (c R : List Nat) : Prop where
  len : c.length = N
  two : 2 ≤ N
  head : c.getD 0 0 = 1 ∧ c.getD 1 0 = 1
  pgs : ∀ p ∈ ps, 2 ≤ p ∧ p < N ∧ c.getD p 0 = 1
  root : ∀ n ∈ R, usedC ps c n = true
  good : ∀ n, usedC ps c n = true → (pg n).2 = 0 ∧ ∀ k ∈ kidsP pg n, usedC ps c k = true
  rank : ∃ r : Nat → Nat, ∀ n, usedC ps c n = true → ∀ k ∈ kidsP pg n, r k < r n
  sum : ∀ n, 2 ≤ n → n ∉ ps → c.getD n 0 = R.count n + sumC N ps pg c n
theorem sum_one {f g : Nat → Nat} {n : Nat} : ∀ {N : Nat}, (∀ m, m ≠ n → g m = f m) → ((List.range N).map g).sum + (if n < N then f n else 0) = ((List.range N).map f).sum + (if n < N then g n else 0)
  | 0, _ => by simp
  | N + 1, h => by
    have ih := sum_one (f := f) (g := g) (n := n) (N := N) h
    simp only [List.range_succ, List.map_append, List.map_cons, List.map_nil, List.sum_append, List.sum_cons, List.sum_nil, Nat.add_zero]
    by_cases hn : n < N
    · rw [if_pos hn, if_pos hn] at ih
      rw [if_pos (by omega), if_pos (by omega), h N (by omega)]
      omega
    · rw [if_neg hn, if_neg hn] at ih
      by_cases hN : n = N
      · subst hN
        rw [if_pos (by omega), if_pos (by omega)]
        omega
      · rw [if_neg (by omega), if_neg (by omega), h N (by omega)]
        omega
theorem le_sum_mem {x : Nat} : ∀ {l : List Nat}, x ∈ l → x ≤ l.sum
  | a :: r, h => by
    rcases List.mem_cons.1 h with rfl | h
    · simp
    · have := le_sum_mem h
      simp only [List.sum_cons]
      omega
theorem sum_zero {f : Nat → Nat} {N : Nat} (h : ((List.range N).map f).sum = 0) : ∀ m, m < N → f m = 0 := by
  intro m hm
  have : f m ≤ ((List.range N).map f).sum := le_sum_mem (List.mem_map.2 ⟨m, List.mem_range.2 hm, rfl⟩)
  omega
theorem getD_set' (l : List Nat) (i k x : Nat) : (l.set i x).getD k 0 = if i = k ∧ k < l.length then x else l.getD k 0 := by
  rw [List.getD_eq_getElem?_getD, List.getD_eq_getElem?_getD, List.getElem?_set]
  by_cases hik : i = k
  · subst hik
    by_cases hk : i < l.length
    · simp [hk]
    · simp [hk]
  · rw [if_neg hik, if_neg (fun h => hik h.1)]
theorem getD_pos_lt {l : List Nat} {n : Nat} (h : 0 < l.getD n 0) : n < l.length := by
  by_cases hn : n < l.length
  · exact hn
  · rw [List.getD_eq_getElem?_getD, List.getElem?_eq_none (by omega)] at h
    simp at h
section
variable {N : Nat} {ps : List Nat} {pg pg' : PgF} {c R : List Nat}
theorem WellC.lt (h : WellC N ps pg c R) {n : Nat} (hn : usedC ps c n = true) : n < N := by
  have := getD_pos_lt (usedC_iff.1 hn).2.2
  rw [h.len] at this
  exact this
theorem WellC.perm {R' : List Nat} (h : WellC N ps pg c R) (hp : R.Perm R') : WellC N ps pg c R' :=
  ⟨h.len, h.two, h.head, h.pgs, fun n hn => h.root n (hp.mem_iff.2 hn), h.good, h.rank, fun n h1 h2 => by rw [h.sum n h1 h2, hp.count_eq]⟩
theorem WellC.none (h : WellC N ps pg c R) {n : Nat} (h2 : 2 ≤ n) (hp : n ∉ ps) (h0 : c.getD n 0 = 0) : n ∉ R ∧ ∀ m, usedC ps c m = true → n ∉ kidsP pg m := by
  have hs := h.sum n h2 hp
  refine ⟨fun hn => ?_, fun m hm hn => ?_⟩
  · have := (usedC_iff.1 (h.root n hn)).2.2; omega
  · have := (usedC_iff.1 ((h.good m hm).2 n hn)).2.2; omega
theorem WellC.put {ks : List Nat} {n : Nat} (h : WellC N ps pg c (ks ++ R)) (h2 : 2 ≤ n) (hN : n < N) (hp : n ∉ ps) (h0 : c.getD n 0 = 0) (hn : (pg' n).2 = 0) (hk : kidsP pg' n = ks) (ho : ∀ m, m ≠ n → m < N → pg' m = pg m) :
    WellC N ps pg' (c.set n 1) (n :: R) := by
  obtain ⟨hnR, hnk⟩ := h.none h2 hp h0
  have hl := h.len
  have hu : ∀ m, usedC ps (c.set n 1) m = (usedC ps c m || decide (m = n)) := by
    intro m
    unfold usedC
    rw [getD_set']
    by_cases hm : m = n
    · subst hm
      simp [hl, hN, h2, hp]
    · rw [if_neg (fun e => hm e.1.symm)]
      simp [hm]
  have hun : usedC ps c n = false := by
    cases hq : usedC ps c n with
    | false => rfl
    | true => have := (usedC_iff.1 hq).2.2; omega
  have hne : ∀ m, usedC ps c m = true → m ≠ n := fun m hm e => by rw [e, hun] at hm; cases hm
  obtain ⟨r, hr⟩ := h.rank
  refine ⟨by simpa using hl, h.two, ?_, ?_, ?_, ?_, ⟨fun m => if m = n then (ks.map r).sum + 1 else r m, ?_⟩, ?_⟩
  · rw [getD_set', getD_set', if_neg (by omega), if_neg (by omega)]
    exact h.head
  · intro p hpp
    obtain ⟨g1, g2, g3⟩ := h.pgs p hpp
    refine ⟨g1, g2, ?_⟩
    rw [getD_set', if_neg (fun e : n = p ∧ p < c.length => hp (e.1 ▸ hpp))]
    exact g3
  · intro m hm
    rw [hu]
    rcases List.mem_cons.1 hm with rfl | hm
    · simp
    · rw [h.root m (List.mem_append_right _ hm)]; rfl
  · intro m hm
    rw [hu] at hm
    by_cases hmn : m = n
    · subst hmn
      refine ⟨hn, fun k hk' => ?_⟩
      rw [hk] at hk'
      rw [hu, h.root k (List.mem_append_left _ hk')]
      rfl
    · have hm' : usedC ps c m = true := by simpa [hmn] using hm
      rw [kidsP, ho m hmn (h.lt hm')]
      refine ⟨(h.good m hm').1, fun k hk' => ?_⟩
      rw [hu, (h.good m hm').2 k hk']
      rfl
  · intro m hm k hk'
    rw [hu] at hm
    dsimp only
    by_cases hmn : m = n
    · subst hmn
      rw [hk] at hk'
      rw [if_pos rfl, if_neg (hne k (h.root k (List.mem_append_left _ hk')))]
      have : r k ≤ (ks.map r).sum := le_sum_mem (List.mem_map.2 ⟨k, hk', rfl⟩)
      omega
    · have hm' : usedC ps c m = true := by simpa [hmn] using hm
      rw [kidsP, ho m hmn (h.lt hm')] at hk'
      rw [if_neg hmn, if_neg (hne k ((h.good m hm').2 k hk'))]
      exact hr m hm' k hk'
  · intro x h2x hpx
    have hg : ∀ m, m < N → m ≠ n → refC ps pg' (c.set n 1) x m = refC ps pg c x m := by
      intro m hm hmn
      unfold refC
      rw [hu, kidsP, kidsP, ho m hmn hm]
      simp [hmn]
    have hone := sum_one (f := refC ps pg c x) (g := fun m => if m = n then refC ps pg' (c.set n 1) x n else refC ps pg c x m) (n := n) (N := N) (fun m hm => if_neg hm)
    rw [if_pos hN, if_pos hN] at hone
    have e1 : ((List.range N).map fun m => if m = n then refC ps pg' (c.set n 1) x n else refC ps pg c x m) = (List.range N).map (refC ps pg' (c.set n 1) x) := by
      apply List.map_congr_left
      intro m hm
      split
      · rename_i e; rw [e]
      · rename_i e; exact (hg m (List.mem_range.1 hm) e).symm
    rw [e1] at hone
    have e2 : refC ps pg c x n = 0 := by unfold refC; rw [hun]; rfl
    have e3 : refC ps pg' (c.set n 1) x n = ks.count x := by unfold refC; rw [hu, hk]; simp
    simp only [if_true, e2, e3, Nat.add_zero] at hone
    have hs := h.sum x h2x hpx
    rw [List.count_append] at hs
    show _ = _ + ((List.range N).map (refC ps pg' (c.set n 1) x)).sum
    rw [hone]
    unfold sumC at hs
    rw [getD_set', List.count_cons]
    by_cases hx : x = n
    · subst hx
      rw [if_pos ⟨rfl, by omega⟩]
      simp only [beq_self_eq_true, if_true]
      omega
    · rw [if_neg (fun e => hx e.1.symm), if_neg (by simpa using fun e => hx e.symm)]
      omega
theorem WellC.setPos {n v : Nat} {R' : List Nat} (h : WellC N ps pg c R) (hn : usedC ps c n = true) (hv : 0 < v) (hR : ∀ m ∈ R', usedC ps c m = true) (hc : ∀ x, x ≠ n → R'.count x = R.count x) (hv' : v + R.count n = c.getD n 0 + R'.count n) :
    WellC N ps pg (c.set n v) R' := by
  obtain ⟨h2, hp, h0⟩ := usedC_iff.1 hn
  have hl := h.len
  have hN := h.lt hn
  have hu : ∀ m, usedC ps (c.set n v) m = usedC ps c m := by
    intro m
    unfold usedC
    rw [getD_set']
    by_cases hm : m = n
    · subst hm
      rw [if_pos ⟨rfl, by omega⟩]
      rw [decide_eq_true hv, decide_eq_true h0]
    · rw [if_neg (fun e => hm e.1.symm)]
  have hs : ∀ x, sumC N ps pg (c.set n v) x = sumC N ps pg c x := by
    intro x
    unfold sumC
    congr 1
    apply List.map_congr_left
    intro m _
    unfold refC
    rw [hu]
  refine ⟨by simpa using hl, h.two, ?_, ?_, fun m hm => by rw [hu]; exact hR m hm, fun m hm => ?_, ?_, ?_⟩
  · rw [getD_set', getD_set', if_neg (by omega), if_neg (by omega)]
    exact h.head
  · intro p hpp
    obtain ⟨g1, g2, g3⟩ := h.pgs p hpp
    refine ⟨g1, g2, ?_⟩
    rw [getD_set', if_neg (fun e : n = p ∧ p < c.length => hp (e.1 ▸ hpp))]
    exact g3
  · rw [hu] at hm
    exact ⟨(h.good m hm).1, fun k hk => by rw [hu]; exact (h.good m hm).2 k hk⟩
  · obtain ⟨r, hr⟩ := h.rank
    exact ⟨r, fun m hm => hr m (by rw [hu] at hm; exact hm)⟩
  · intro x h2x hpx
    have := h.sum x h2x hpx
    rw [hs, getD_set']
    by_cases hx : x = n
    · subst hx
      rw [if_pos ⟨rfl, by omega⟩]
      omega
    · rw [if_neg (fun e => hx e.1.symm), hc x hx]
      omega
theorem WellC.share {n : Nat} (h : WellC N ps pg c R) (hn : usedC ps c n = true) : WellC N ps pg (c.set n (c.getD n 0 + 1)) (n :: R) :=
  h.setPos hn (by omega) (fun m hm => by rcases List.mem_cons.1 hm with rfl | hm; exact hn; exact h.root m hm) (fun x hx => by rw [List.count_cons, if_neg (by simpa using fun e => hx e.symm)]; rfl) (by rw [List.count_cons_self]; omega)
theorem WellC.dec {n : Nat} (h : WellC N ps pg c (n :: R)) (h1 : c.getD n 0 ≠ 1) : WellC N ps pg (c.set n (c.getD n 0 - 1)) R := by
  have hn := h.root n List.mem_cons_self
  have := (usedC_iff.1 hn).2.2
  exact h.setPos hn (by omega) (fun m hm => h.root m (List.mem_cons_of_mem _ hm)) (fun x hx => by rw [List.count_cons, if_neg (by simpa using fun e => hx e.symm)]; rfl) (by rw [List.count_cons_self]; omega)
theorem WellC.last {n : Nat} (h : WellC N ps pg c (n :: R)) (h1 : c.getD n 0 = 1) : WellC N ps pg (c.set n 0) (kidsP pg n ++ R) := by
  have hn := h.root n List.mem_cons_self
  obtain ⟨h2, hp, h0⟩ := usedC_iff.1 hn
  have hl := h.len
  have hN := h.lt hn
  have hsn := h.sum n h2 hp
  rw [h1, List.count_cons_self] at hsn
  have hcR : R.count n = 0 := by omega
  have hz : ∀ m, m < N → refC ps pg c n m = 0 := sum_zero (by unfold sumC at hsn; omega)
  have hnR : n ∉ R := List.count_eq_zero.1 hcR
  have hnk : ∀ m, usedC ps c m = true → n ∉ kidsP pg m := by
    intro m hm
    have := hz m (h.lt hm)
    unfold refC at this
    rw [if_pos hm] at this
    exact List.count_eq_zero.1 this
  have hu : ∀ m, usedC ps (c.set n 0) m = (usedC ps c m && !(decide (m = n))) := by
    intro m
    unfold usedC
    rw [getD_set']
    by_cases hm : m = n
    · subst hm
      rw [if_pos ⟨rfl, by omega⟩]
      simp
    · rw [if_neg (fun e => hm e.1.symm)]
      simp [hm]
  have hu2 : ∀ {m}, usedC ps c m = true → m ≠ n → usedC ps (c.set n 0) m = true := fun hm hmn => by rw [hu, hm]; simp [hmn]
  refine ⟨by simpa using hl, h.two, ?_, ?_, ?_, fun m hm => ?_, ?_, ?_⟩
  · rw [getD_set', getD_set', if_neg (by omega), if_neg (by omega)]
    exact h.head
  · intro p hpp
    obtain ⟨g1, g2, g3⟩ := h.pgs p hpp
    refine ⟨g1, g2, ?_⟩
    rw [getD_set', if_neg (fun e : n = p ∧ p < c.length => hp (e.1 ▸ hpp))]
    exact g3
  · intro m hm
    rcases List.mem_append.1 hm with hm | hm
    · exact hu2 ((h.good n hn).2 m hm) (fun e => hnk n hn (e ▸ hm))
    · exact hu2 (h.root m (List.mem_cons_of_mem _ hm)) (fun e => hnR (e ▸ hm))
  · rw [hu] at hm
    have hm' : usedC ps c m = true := by simp at hm; exact hm.1
    exact ⟨(h.good m hm').1, fun k hk => hu2 ((h.good m hm').2 k hk) (fun e => hnk m hm' (e ▸ hk))⟩
  · obtain ⟨r, hr⟩ := h.rank
    exact ⟨r, fun m hm => hr m (by rw [hu] at hm; simp at hm; exact hm.1)⟩
  · intro x h2x hpx
    have hone := sum_one (f := refC ps pg c x) (g := refC ps pg (c.set n 0) x) (n := n) (N := N) (fun m hm => by unfold refC; rw [hu]; simp [hm])
    rw [if_pos hN, if_pos hN] at hone
    have e2 : refC ps pg c x n = (kidsP pg n).count x := by unfold refC; rw [if_pos hn]
    have e3 : refC ps pg (c.set n 0) x n = 0 := by unfold refC; rw [hu]; simp
    rw [e2, e3] at hone
    have hs := h.sum x h2x hpx
    unfold sumC at hs ⊢
    rw [getD_set', List.count_append]
    by_cases hx : x = n
    · subst hx
      rw [if_pos ⟨rfl, by omega⟩]
      have : (kidsP pg x).count x = 0 := List.count_eq_zero.2 (hnk x hn)
      rw [List.count_cons_self] at hs
      omega
    · rw [if_neg (fun e => hx e.1.symm)]
      rw [List.count_cons, if_neg (by simpa using fun e => hx e.symm)] at hs
      omega
theorem WellC.pgs_eq (h : WellC N ps pg c R) (ho : ∀ m, usedC ps c m = true → pg' m = pg m) : WellC N ps pg' c R := by
  have hs : ∀ x, sumC N ps pg' c x = sumC N ps pg c x := by
    intro x
    unfold sumC
    congr 1
    apply List.map_congr_left
    intro m _
    unfold refC
    by_cases hm : usedC ps c m = true
    · rw [if_pos hm, if_pos hm, kidsP, ho m hm]
    · rw [if_neg hm, if_neg hm]
  refine ⟨h.len, h.two, h.head, h.pgs, h.root, fun n hn => ?_, ?_, fun n h2 hp => by rw [hs]; exact h.sum n h2 hp⟩
  · rw [kidsP, ho n hn]
    exact h.good n hn
  · obtain ⟨r, hr⟩ := h.rank
    exact ⟨r, fun n hn k hk => hr n hn k (by rw [kidsP, ho n hn] at hk; exact hk)⟩
end
inductive Drp (ask : Nat → Bool) (pg : PgF) : List Nat → List Nat → List Nat → Int → Prop
  | nil (c : List Nat) : Drp ask pg c [] c 0
  | bad {c st : List Nat} {n : Nat} : c.getD n 0 ≠ 1 → atE c n ≠ 0 → Drp ask pg c (n :: st) c (atE c n)
  | dec {c c' st : List Nat} {n : Nat} {e : Int} : c.getD n 0 ≠ 1 → atE c n = 0 → Drp ask pg (subL c n) st c' e → Drp ask pg c (n :: st) c' e
  | noask {c st : List Nat} {n : Nat} : c.getD n 0 = 1 → ask n = false → Drp ask pg c (n :: st) c 2
  | err {c st : List Nat} {n : Nat} {e : Int} : c.getD n 0 = 1 → ask n = true → (pg n).2 = e → e ≠ 0 → Drp ask pg c (n :: st) c e
  | last {c c' st : List Nat} {n : Nat} {e : Int} : c.getD n 0 = 1 → ask n = true → (pg n).2 = 0 → Drp ask pg (subL c n) (kidsP pg n ++ st) c' e → Drp ask pg c (n :: st) c' e
theorem sum_set (l : List Nat) : ∀ (i x : Nat), i < l.length → (l.set i x).sum + l.getD i 0 = l.sum + x := by
  induction l with
  | nil => intro i x h; simp at h
  | cons a r ih =>
    intro i x h
    cases i with
    | zero => simp [List.sum_cons]; omega
    | succ i =>
      have := ih i x (by simpa using h)
      simp only [List.set_cons_succ, List.sum_cons, List.getD_cons_succ]
      omega
theorem atE_used {N : Nat} {ps : List Nat} {pg : PgF} {c R : List Nat} (h : WellC N ps pg c R) {n : Nat} (hn : usedC ps c n = true) : atE c n = 0 := by
  obtain ⟨h2, hp, h0⟩ := usedC_iff.1 hn
  have := h.lt hn
  have := h.len
  unfold atE
  rw [if_neg (by omega), if_neg (by omega)]
theorem subL_used {N : Nat} {ps : List Nat} {pg : PgF} {c R : List Nat} (h : WellC N ps pg c R) {n : Nat} (hn : usedC ps c n = true) : subL c n = c.set n (c.getD n 0 - 1) := by
  unfold subL
  rw [if_pos (atE_used h hn)]
theorem WellC.drop {N : Nat} {ps : List Nat} {pg : PgF} {ask : Nat → Bool} (hask : ∀ n, 2 ≤ n → n < N → n ∉ ps → ask n = true) : ∀ (z : Nat) {c R : List Nat} (st : List Nat), c.sum ≤ z → WellC N ps pg c (st ++ R) → ∃ c', Drp ask pg c st c' 0 ∧ WellC N ps pg c' R ∧ c'.length = c.length ∧ ∀ n, c'.getD n 0 ≤ c.getD n 0 := by
  intro z
  induction z with
  | zero =>
    intro c R st hz h
    have h0 := h.head.1
    have hl := h.len
    have h2 := h.two
    have := sum_set c 0 0 (by omega)
    omega
  | succ z ih =>
    intro c R st hz h
    cases st with
    | nil => exact ⟨c, .nil c, h, rfl, fun _ => Nat.le_refl _⟩
    | cons n st =>
      have hn := h.root n (by simp)
      obtain ⟨h2, hp, h0⟩ := usedC_iff.1 hn
      have hN := h.lt hn
      have hl := h.len
      have hsum := sum_set c n (c.getD n 0 - 1) (by omega)
      have hle : ∀ v, v ≤ c.getD n 0 → ∀ k, (c.set n v).getD k 0 ≤ c.getD k 0 := by
        intro v hv k
        rw [getD_set']
        split
        · rename_i e; rw [← e.1]; exact hv
        · exact Nat.le_refl _
      by_cases h1 : c.getD n 0 = 1
      · have hw : WellC N ps pg (c.set n 0) (kidsP pg n ++ st ++ R) := by
          rw [List.append_assoc]
          exact WellC.last (R := st ++ R) h h1
        have es : subL c n = c.set n 0 := by rw [subL_used h hn, h1]
        rw [h1] at hsum
        obtain ⟨c', g1, g2, g3, g4⟩ := ih _ (by simp only [Nat.sub_self] at hsum; omega) hw
        exact ⟨c', .last h1 (hask n h2 hN hp) (h.good n hn).1 (by rw [es]; exact g1), g2, by rw [g3]; simp, fun k => Nat.le_trans (g4 k) (hle 0 (by omega) k)⟩
      · have hw : WellC N ps pg (c.set n (c.getD n 0 - 1)) (st ++ R) := WellC.dec h h1
        obtain ⟨c', g1, g2, g3, g4⟩ := ih _ (by omega) hw
        exact ⟨c', .dec h1 (atE_used h hn) (by rw [subL_used h hn]; exact g1), g2, by rw [g3]; simp, fun k => Nat.le_trans (g4 k) (hle _ (by omega) k)⟩
end Go.Proofs.YtjdmggaeagnolaaGreatDoor.V
/- Contracts of the package space: Share, Count, Drop. -/
namespace Go.Proofs.YtjdmggaeagnolaaGreatDoor.V
open Go Go.Proofs Go.RowKit Crc
variable {w w' : World} {b db : Nat} {S : Spa} {F Fd : Nat → Prop} {x : SLC} {hb hr nb nr : Nat} {m : MkL}
theorem SpM.nrF (h : SpM w b db S F Fd x hb hr nb nr m) : F nr := (h.own nr).2 (.inr (by simp [spOwn]))
theorem SpM.nrOnly (h : SpM w b db S F Fd x hb hr nb nr m) {w0 : World} (hg : w0.grownBy w' (some nr)) : Only F w0 w' := Only.of_grown hg (fun j hj => .inl (by injection hj with hj; subst hj; exact h.nrF))
def Spa.share (S : Spa) (n : Nat) : Spa × Int := if S.asked n = false then (S, 2) else ({ S with now := addL S.now n }, addE S.now n)
theorem share_calls (h : SpM w b db S F Fd x hb hr nb nr m) {n : Nat} (hn : n < 4294967296) :
    Calls Tryz.prog 31 #[.pointer (some ⟨b, 0, none⟩), .int .u32 (n : Int)] w (Ret fun v w' => v = .int .i64 (S.share n).2 ∧ SpM w' b db (S.share n).1 F Fd x hb hr nb nr m ∧ Only F w w') := by
  apply calls31
  unfold S31 Spa.share
  refine splitW_f (by rfl) (callW_of (asked_calls h hn) ?_)
  rintro _ w1 ⟨rfl, hw1⟩
  refine ⟨_, rfl, ?_⟩
  rw [hw1]
  refine splitW_i (fun hq => ?_) (fun hq => ?_)
  · have hq : S.asked n = false := by simpa using hq
    rw [if_pos hq]
    exact ⟨rfl, h, Only.refl F w⟩
  have hq : S.asked n = true := by simpa using hq
  rw [if_neg (by rw [hq]; simp)]
  obtain ⟨t, hbx⟩ := h.box
  refine ptr_i (boxE (l := .ptr) 8 (some ⟨nb, 0, none⟩) hbx (by rfl) (by rfl) ?_)
  obtain ⟨q, c⟩ := h.nowC
  refine callW_of (add_calls c n hn) ?_
  rintro _ w2 ⟨rfl, hc, hg⟩
  exact ⟨_, rfl, rfl, h.setNow hg hc (by unfold addL; split <;> simp), h.nrOnly hg⟩
theorem idx_setN {k : IntKind} {w : World} {e : TypeId} {B : Nat} {A : Option Addr} {n c : Nat} {xs : List Nat} {i : Int} {v : Nat} {K : WP} (h : Owni (numE k) e w B A n c xs) (h0 : 0 ≤ i) (h1 : i < (n : Int))
    (hK : ∀ w', Owni (numE k) e w' B A n c (xs.set i.toNat v) → w.grownBy w' (orow A) → K w') :
    (guardW (0 ≤ i ∧ i < ((n : Nat) : Int)) <| ptrW A fun p => stW (p.add (Int.toNat i * 1)) (.int k (v : Int)) K) w := by
  refine idx_set (e := e) (B := B) (c := c) (vs := (numE k).flat xs) h h0 h1 fun w' ho hg => hK w' ?_ (by rw [orow_eq] at hg; exact hg)
  rw [numE_set] at ho
  exact ho
theorem rev_calls {w : World} {B : Nat} {A : Option Addr} {n c : Nat} {xs : List Nat} (h : Owni (numE .u32) 31 w B A n c xs) (hn : n ≤ 1000000) :
    Calls Tryz.prog 61 #[.slice A n c] w (Ret fun v w' => v = .tuple #[] ∧ Owni (numE .u32) 31 w' B A n c xs.reverse ∧ w.grownBy w' (orow A)) := by
  apply calls61
  unfold S61
  have hl := h.len
  rw [wrap_i64 (by omega) (by omega)]
  refine loopW_i (fun y w' => ∃ (i : Nat) (ys : List Nat), 2 * i ≤ n + 1 ∧ y = ((i : Int), (n : Int) - 1 - i, ()) ∧ ys.length = n ∧ (∀ k, k < n → ys.getD k 0 = if k < i ∨ n ≤ k + i then xs.getD (n - 1 - k) 0 else xs.getD k 0) ∧ Owni (numE .u32) 31 w' B A n c ys ∧ w.grownBy w' (orow A)) (fun y => (n - y.1).toNat)
    ⟨0, xs, by omega, by simp, hl, fun k hk => by rw [if_neg (by omega)], h, grownBy_refl _ _⟩ ?_
  rintro _ w1 ⟨i, ys, hi, rfl, hyl, hys, ho, hg⟩
  dsimp only
  by_cases hlt : (i : Int) < (n : Int) - 1 - i
  · refine splitW_t (decide_eq_true hlt) ?_
    refine draw_i fun w2 he2 _ _ => ?_
    have ho := ho.ext he2
    have hg := grownBy_tr hg (grownBy_of_ext he2 none) (fun j hj => by cases hj)
    refine idx_num ho.sl (by omega) (by omega) ?_
    refine idx_num ho.sl (by omega) (by omega) ?_
    have ej : ((n : Int) - 1 - i).toNat = n - 1 - i := by omega
    refine idx_setN ho (by omega) (by omega) ?_
    intro w3 ho3 hg3
    refine idx_setN ho3 (by omega) (by omega) ?_
    intro w4 ho4 hg4
    rw [ej, Int.toNat_natCast] at ho4
    refine ⟨⟨i + 1, (ys.set i (ys.getD (n - 1 - i) 0)).set (n - 1 - i) (ys.getD i 0), by omega, ?_, by simp [hyl], fun k hk => ?_, ho4, grownBy_tr (grownBy_tr hg hg3 (fun j hj => .inl hj)) hg4 (fun j hj => .inl hj)⟩, ?_⟩
    · rw [show IntKind.wrap .i64 ((i : Int) + 1) = ((i + 1 : Nat) : Int) from by rw [wrap_i64 (by omega) (by omega)]; rfl, show IntKind.wrap .i64 ((n : Int) - 1 - i - 1) = (n : Int) - 1 - ((i + 1 : Nat) : Int) from by rw [wrap_i64 (by omega) (by omega)]; omega]
    · rw [getD_setN, getD_setN]
      simp only [List.length_set, hyl]
      have h1 := hys i (by omega)
      have h2 := hys (n - 1 - i) (by omega)
      rw [if_neg (by omega)] at h1 h2
      by_cases e1 : n - 1 - i = k
      · subst e1
        rw [if_pos ⟨rfl, hk⟩, if_pos (by omega), h1]
        congr 1
        omega
      · rw [if_neg (fun e => e1 e.1)]
        by_cases e2 : i = k
        · subst e2
          rw [if_pos ⟨rfl, hk⟩, if_pos (by omega), h2]
        · rw [if_neg (fun e => e2 e.1), hys k hk]
          by_cases e3 : k < i ∨ n ≤ k + i
          · rw [if_pos e3, if_pos (by omega)]
          · rw [if_neg e3, if_neg (by omega)]
    · rw [wrap_i64 (by omega) (by omega)]; omega
  · refine splitW_f (decide_eq_false hlt) ⟨rfl, ?_, hg⟩
    have e : ys = xs.reverse := by
      refine list_ext_getD (by simp [hyl, hl]) (fun k => ?_)
      by_cases hk : k < n
      · rw [hys k hk, List.getD_eq_getElem?_getD (l := xs.reverse), List.getElem?_reverse (by omega), hl, ← List.getD_eq_getElem?_getD]
        split
        · rfl
        · congr 1; omega
      · rw [List.getD_eq_getElem?_getD, List.getD_eq_getElem?_getD, List.getElem?_eq_none (by omega), List.getElem?_eq_none (by simp; omega)]
    rw [← e]
    exact ho
theorem Owni.trunc {w : World} {e : TypeId} {B : Nat} {A : Option Addr} {n c : Nat} {ys : List Nat} {k : Nat} (h : Owni (numE .u32) e w B A n c (ys ++ [k])) : cutAddr A 0 c 1 = A ∧ n = ys.length + 1 ∧ Owni (numE .u32) e w B A ys.length c ys := by
  have hl := h.len
  rw [List.length_append, List.length_singleton] at hl
  have hle := h.le
  obtain ⟨h1, h2⟩ := h
  rcases h2 with ⟨_, hn⟩ | ⟨g, cap, cur, hv, hB, hg, hnc, hcm, hcs, ht⟩
  · omega
  · injection hv with hA hn hc
    subst hA hc
    refine ⟨?_, hl.symm, ⟨by rw [(numE .u32).flat_length], .inr ⟨g, c, cur, rfl, hB, hg, by omega, hcm, hcs, ?_⟩⟩⟩
    · unfold cutAddr
      split
      · rename_i h0; omega
      · simp [Addr.add]
    · have e1 : cur.toList.take (ys.length * (numE .u32).k) = ((numE .u32).flat (ys ++ [k])).take (ys.length * (numE .u32).k) := by
        rw [← ht, List.take_take, Nat.min_eq_left (Nat.mul_le_mul_right _ (by omega))]
      have e2 := (numE .u32).flat_length ys
      rw [e1, (numE .u32).flat_append, List.take_append_of_le_length (by omega), List.take_of_length_le (by omega)]
theorem Drp.inv {ask : Nat → Bool} {pg : PgF} {c st c' : List Nat} {n : Nat} {e : Int} (h : Drp ask pg c (n :: st) c' e) :
    (c.getD n 0 ≠ 1 ∧ atE c n ≠ 0 ∧ c' = c ∧ e = atE c n) ∨ (c.getD n 0 ≠ 1 ∧ atE c n = 0 ∧ Drp ask pg (subL c n) st c' e) ∨ (c.getD n 0 = 1 ∧ ask n = false ∧ c' = c ∧ e = 2) ∨
    (c.getD n 0 = 1 ∧ ask n = true ∧ (pg n).2 = e ∧ e ≠ 0 ∧ c' = c) ∨ (c.getD n 0 = 1 ∧ ask n = true ∧ (pg n).2 = 0 ∧ Drp ask pg (subL c n) (kidsP pg n ++ st) c' e) := by
  cases h with
  | bad h1 h2 => exact .inl ⟨h1, h2, rfl, rfl⟩
  | dec h1 h2 h3 => exact .inr (.inl ⟨h1, h2, h3⟩)
  | noask h1 h2 => exact .inr (.inr (.inl ⟨h1, h2, rfl, rfl⟩))
  | err h1 h2 h3 h4 => exact .inr (.inr (.inr (.inl ⟨h1, h2, h3, h4, rfl⟩)))
  | last h1 h2 h3 h4 => exact .inr (.inr (.inr (.inr ⟨h1, h2, h3, h4⟩)))
theorem pageR_kids {N : Nat} {bs : List UInt8} : (pageR N bs).1.2.1.length ≤ 1024 ∧ ∀ k ∈ (pageR N bs).1.2.1, 2 ≤ k ∧ k < N := by
  unfold pageR
  split
  · rename_i hc
    obtain ⟨h0, h1, h2, h3, h4⟩ := hc
    refine ⟨?_, h4⟩
    dsimp only
    have hdl : (B (getR bs).1.2.2).length ≤ 4096 := by
      have := putR_ok (size := (bs.length : Int)) (f := frameB bs) (by rw [(getR_ok h0).2])
      rw [(getR_ok h0).1]
      omega
    unfold kidsOf
    rw [wordsOf_length]
    omega
  · simp [page0]
theorem subL_sum {c : List Nat} {n : Nat} (h : atE c n = 0) : (subL c n).sum + 1 = c.sum := by
  rcases atE_cases c n with ⟨_, h2, h3, h4⟩ | h2 | h2
  · unfold subL
    rw [if_pos h]
    have := sum_set c n (c.getD n 0 - 1) h3
    omega
  · omega
  · omega
theorem list_split {α : Type} (l : List α) : l = [] ∨ ∃ (r : List α) (a : α), l = r ++ [a] := by
  rcases List.eq_nil_or_concat l with h | ⟨r, a, h⟩
  · exact .inl h
  · exact .inr ⟨r, a, by rw [h, List.concat_eq_append]⟩
theorem sum_le {l : List Nat} {B : Nat} (h : ∀ n ∈ l, n ≤ B) : l.sum ≤ l.length * B := by
  induction l with
  | nil => simp
  | cons a r ih =>
    have h1 := ih (fun n hn => h n (List.mem_cons_of_mem _ hn))
    have h2 := h a List.mem_cons_self
    rw [List.sum_cons, List.length_cons, Nat.add_mul]
    omega
theorem drop_calls (h : SpM w b db S F Fd x hb hr nb nr m) {n : Nat} (hn : n < 4294967296) {c' : List Nat} {e : Int} (hD : S.asked n = true → Drp S.asked S.page S.now [n] c' e) (hno : S.asked n = false → c' = S.now ∧ e = 2) :
    Calls Tryz.prog 26 #[.pointer (some ⟨b, 0, none⟩), .int .u32 (n : Int)] w (Ret fun v w' => v = .int .i64 e ∧ SpM w' b db { S with now := c' } F Fd x hb hr nb nr m ∧ Only F w w') := by
  have hFlt := h.lt
  have hdim := h.dims
  have hN := hdim.n
  have hnrlt := hFlt nr h.nrF
  have hsum0 : S.now.sum ≤ 4096 * 65535 := by
    obtain ⟨q, hc⟩ := h.nowC
    have := sum_le (l := S.now) (B := 65535) (fun a ha => by have := hc.fits a ha; omega)
    have hl := hc.len
    exact Nat.le_trans this (Nat.mul_le_mul_right _ hl.2)
  apply calls26
  unfold S26
  refine splitW_f (by rfl) (callW_of (asked_calls h hn) ?_)
  rintro _ w1 ⟨rfl, hw1⟩
  refine ⟨_, rfl, ?_⟩
  rw [hw1]
  refine splitW_i (fun hq => ?_) (fun hq => ?_)
  · have hq : S.asked n = false := by simpa using hq
    obtain ⟨rfl, rfl⟩ := hno hq
    exact ⟨rfl, h, Only.refl F w⟩
  have hq : S.asked n = true := by simpa using hq
  have hD := hD hq
  refine new_i fun r2 w2 hb2 he2 hr2 hz2 => ?_
  have ho2 : Owni (numE .u32) 31 w2 r2 (some ⟨r2, 0, none⟩) 1 1 [n] := owni_of_blk (by exact hb2) rfl (by omega) (Nat.le_refl _)
  refine loopW_x (fun y k w' => ∃ (cc xs : List Nat) (A : Option Addr) (cp : Nat), y = ((A, xs.length, cp), ()) ∧ k = cc.sum ∧ Drp S.asked S.page cc xs.reverse c' e ∧ SpM w' b db { S with now := cc } F Fd x hb hr nb nr m ∧ Owni (numE .u32) 31 w' r2 A xs.length cp xs ∧ (∀ a ∈ xs, a < 4294967296) ∧ Only F w w' ∧ xs.length + 1100 * cc.sum ≤ 1 + 1100 * S.now.sum)
    S.now.sum ⟨S.now, [n], _, 1, rfl, rfl, hD, h.ext he2, ho2, by simpa using hn, Only.of_ext he2, by simp⟩ ?_
  rintro _ k w3 J ⟨cc, xs, A, cp, rfl, rfl, hD, hS, ho, h32, hO, hbound⟩ hJ
  dsimp only
  rcases list_split xs with rfl | ⟨ys, a, rfl⟩
  · refine splitW_f (decide_eq_false (by simp)) ?_
    rw [List.reverse_nil] at hD
    cases hD
    exact ⟨rfl, hS, hO⟩
  have hle := ho.le
  obtain ⟨ecut, hyl, hoy⟩ := ho.trunc
  rw [ecut]
  rw [hyl] at ho hle ⊢
  rw [hyl] at hbound
  refine splitW_t (decide_eq_true (by omega)) ?_
  have ew : IntKind.wrap .i64 (((ys.length + 1 : Nat) : Int) - 1) = (ys.length : Int) := by rw [wrap_i64 (by omega) (by omega)]; omega
  rw [ew]
  refine idx_num ho.sl (by omega) (by omega) ?_
  rw [Int.toNat_natCast]
  have ea : (ys ++ [a]).getD ys.length 0 = a := by simp
  rw [ea]
  have ha := h32 a (by simp)
  refine guard_i ⟨by omega, by omega⟩ ?_
  obtain ⟨t, hbx⟩ := hS.box
  refine ptr_i (boxE (l := .ptr) 8 (some ⟨nb, 0, none⟩) hbx (by rfl) (by rfl) ?_)
  refine callW_of (nowget_calls hS a ha) ?_
  rintro _ w4 ⟨rfl, hw4⟩
  refine ⟨_, rfl, ?_⟩
  rw [hw4]
  dsimp only
  rw [List.reverse_append, List.reverse_singleton, List.singleton_append] at hD
  have hr2F : ∀ j, orow A = some j → w.heap.size ≤ j := fun j hj => by have := ho.row j hj; omega
  have hnrA : ∀ j, some nr = some j → orow A ≠ some j := fun j hj e => by injection hj with hj; subst hj; have := hr2F _ e; omega
  have hO' : ∀ {w5 : World}, w3.grownBy w5 (some nr) → Only F w w5 := fun hg => Only.trans hO (h.nrOnly hg) (fun j hj => .inl hj)
  rcases hD.inv with ⟨d1, d2, d3, d4⟩ | ⟨d1, d2, d3⟩ | ⟨d1, d2, d3, d4⟩ | ⟨d1, d2, d3, d4, d5⟩ | ⟨d1, d2, d3, d4⟩
  · refine splitW_t (bne_iff_ne.2 (by omega)) ?_
    refine ptr_i (boxE (l := .ptr) 8 (some ⟨nb, 0, none⟩) hbx (by rfl) (by rfl) ?_)
    refine callW_of (sub_now hS ha) ?_
    rintro _ w5 ⟨rfl, hS5, hg5⟩
    refine ⟨((subN cc a : Int), atE cc a, ()), rfl, splitW_t (bne_iff_ne.2 d2) ?_⟩
    have es : subL cc a = cc := by unfold subL; rw [if_neg d2]
    dsimp only at hS5
    rw [es] at hS5
    subst d3 d4
    exact ⟨rfl, hS5, hO' hg5⟩
  · refine splitW_t (bne_iff_ne.2 (by omega)) ?_
    refine ptr_i (boxE (l := .ptr) 8 (some ⟨nb, 0, none⟩) hbx (by rfl) (by rfl) ?_)
    refine callW_of (sub_now hS ha) ?_
    rintro _ w5 ⟨rfl, hS5, hg5⟩
    refine ⟨((subN cc a : Int), atE cc a, ()), rfl, ?_⟩
    dsimp only
    rw [d2]
    refine splitW_f (by rfl) ?_
    have hsum := subL_sum d2
    exact hJ _ _ _ (by omega : (subL cc a).sum < cc.sum) ⟨subL cc a, ys, A, cp, rfl, rfl, d3, hS5, hoy.grown hg5 hnrA, fun k hk => h32 k (List.mem_append_left _ hk), hO' hg5, by omega⟩
  all_goals
    refine splitW_f (bne_eq_false_iff_eq.2 (by omega)) ?_
    refine callW_of (getS_calls hS ha) ?_
    rintro _ w5 ⟨y, rfl, hok, he5⟩
    refine ⟨(pgT (Spa.get { S with now := cc } a).1 y, (Spa.get { S with now := cc } a).2, ()), rfl, ?_⟩
  · have eg : Spa.get { S with now := cc } a = (page0, 2) := if_pos d2
    rw [eg] at hok ⊢
    refine box_i (vs := pgV page0 y) (by rfl) (pgV_one _ _) (fun r6 w6 hb6 he6 hr6 => ?_) (by rfl)
    refine splitW_t (by rfl) ?_
    subst d3 d4
    exact ⟨rfl, (hS.ext he5).ext he6, Only.trans (Only.trans hO (Only.of_ext (F := F) he5) (fun j hj => .inl hj)) (Only.of_ext (F := F) he6) (fun j hj => .inl hj)⟩
  · have eg : Spa.get { S with now := cc } a = S.page a := by
      unfold Spa.get
      rw [if_neg (by rw [show Spa.asked { S with now := cc } a = S.asked a from rfl, d2]; simp), if_neg (by dsimp only; omega)]
      rfl
    rw [eg] at hok ⊢
    refine box_i (vs := pgV (S.page a).1 y) (by rfl) (pgV_one _ _) (fun r6 w6 hb6 he6 hr6 => ?_) (by rfl)
    refine splitW_t (bne_iff_ne.2 (by dsimp only; rw [d3]; exact d4)) ?_
    subst d5
    refine ⟨by rw [← d3], (hS.ext he5).ext he6, Only.trans (Only.trans hO (Only.of_ext (F := F) he5) (fun j hj => .inl hj)) (Only.of_ext (F := F) he6) (fun j hj => .inl hj)⟩
  · have eg : Spa.get { S with now := cc } a = S.page a := by
      unfold Spa.get
      rw [if_neg (by rw [show Spa.asked { S with now := cc } a = S.asked a from rfl, d2]; simp), if_neg (by dsimp only; omega)]
      rfl
    rw [eg] at hok ⊢
    refine box_i (vs := pgV (S.page a).1 y) (by rfl) (pgV_one _ _) (fun r6 w6 hb6 he6 hr6 => ?_) (by rfl)
    dsimp only
    rw [d3]
    refine splitW_f (by rfl) ?_
    have he56 := he5.trans he6
    have hS6 := hS.ext he56
    have hok6 := hok.ext he6
    have hoy6 := hoy.ext he56
    have o6 : Only F w w6 := Only.trans hO (Only.of_ext (F := F) he56) (fun j hj => .inl hj)
    obtain ⟨t, hbx⟩ := hS6.box
    refine ptr_i (boxE (l := .ptr) 8 (some ⟨nb, 0, none⟩) hbx (by rfl) (by rfl) ?_)
    refine callW_of (sub_now hS6 ha) ?_
    rintro _ w7 ⟨rfl, hS7, hg7⟩
    have datE : atE cc a = 0 := by
      obtain ⟨a1, a2, a3⟩ := asked_iff.1 d2
      have hl := hS.ok.now
      have hl' : cc.length = S.N := hl
      unfold atE
      rw [if_neg (by omega), if_neg (by omega)]
    refine ⟨((subN cc a : Int), atE cc a, ()), rfl, ?_⟩
    dsimp only
    rw [datE]
    refine splitW_f (by rfl) ?_
    have h3lt : nr < w3.heap.size := Nat.lt_of_lt_of_le hnrlt hO.2.2.2.1
    have hb7 := hb6.grown hg7 (by simp; have := he5.size; omega)
    have hkrow : ∀ j, orow y.1 = some j → w3.heap.size ≤ j := fun j hj => hok.row j hj
    have hok7 := hok6.grown hg7 (fun j hj e => by injection hj with hj; subst hj; have := hkrow _ e; omega)
    have hoy7 := hoy6.grown hg7 hnrA
    have o7 : Only F w w7 := Only.trans o6 (h.nrOnly hg7) (fun j hj => .inl hj)
    refine boxF (l := .slc) 1 y hb7 (by rfl) ?_
    have hkl := (pageR_kids (N := S.N) (bs := B (S.dev.read a).1))
    have hkl1 : (S.page a).1.2.1.length ≤ 1024 := hkl.1
    have hyn := hok7.len
    refine callW_of (rev_calls hok7 (by omega)) ?_
    rintro _ w8 ⟨rfl, hok8, hg8⟩
    refine ⟨(), rfl, ?_⟩
    have hyr6 : ∀ j, orow y.1 = some j → j ≠ r6 := fun j hj e => by have := hok.row_lt j hj; omega
    have hb8 := hb7.grown hg8 (fun e => hyr6 r6 e.symm rfl)
    have hAlt : ∀ j, orow A = some j → j < w3.heap.size := fun j hj => hoy.row_lt j hj
    have hoy8 := hoy7.grown hg8 (fun j hj e => by have := hkrow j hj; have := hAlt j e; omega)
    have o8' : Only (fun j => orow y.1 = some j) w7 w8 := Only.of_grown hg8 (fun j hj => .inl hj)
    have h37 : w.heap.size ≤ w3.heap.size := hO.2.2.2.1
    have hS8 := hS7.only o8' (fun j hj e => by have := hkrow j e; have := hFlt j hj; omega)
    have o8 : Only F w w8 := Only.trans o7 o8' (fun j hj => .inr (by have := hkrow j hj; omega))
    refine boxF (l := .slc) 1 y hb8 (by rfl) ?_
    have hrl : (S.page a).1.2.1.reverse.length = y.2.1 := by rw [List.length_reverse]; exact hyn
    refine append_sli (E := numE .u32) elem_u32 hoy8 (by have := hb8.lt; have := he5.size; omega) hok8.sl (by omega) (by omega) ?_
    intro A' c'' w9 ho9 hg9 _
    have hx9 : ∀ j, orow A = some j → ¬ F j := fun j hj hf => by have := hr2F j hj; have := hFlt j hf; omega
    have o9' : Only (fun j => orow A = some j) w8 w9 := Only.of_grown hg9.grown (fun j hj => .inl hj)
    have hS9 := hS8.only o9' (fun j hj e => hx9 j e hj)
    have o9 : Only F w w9 := Only.trans o8 o9' (fun j hj => .inr (hr2F j hj))
    have hsum := subL_sum datE
    rw [show ys.length + y.2.1 = (ys ++ (S.page a).1.2.1.reverse).length by rw [List.length_append, hrl]] at ho9 ⊢
    refine hJ _ _ _ (by omega : (subL cc a).sum < cc.sum) ⟨subL cc a, ys ++ (S.page a).1.2.1.reverse, A', c'', rfl, rfl, ?_, hS9, ho9, fun k hk => ?_, o9, ?_⟩
    · rw [List.reverse_append, List.reverse_reverse]; exact d4
    · rcases List.mem_append.1 hk with hk | hk
      · exact h32 k (List.mem_append_left _ hk)
      · have := hkl.2 k (List.mem_reverse.1 hk); omega
    · rw [List.length_append, hrl]; omega
end Go.Proofs.YtjdmggaeagnolaaGreatDoor.V
/- Contracts of counts.Load, and of the reference's New, Pages, Load. -/
namespace Go.Proofs.YtjdmggaeagnolaaGreatDoor.V
open Go Go.Proofs Go.RowKit
theorem pagesL_sizes (l : List Nat) (per : Nat) : fitsP l.length per (pagesL l per) := by
  unfold fitsP sizes pagesL
  rw [List.map_map]
  apply List.map_congr_left
  intro i _
  simp only [Function.comp]
  rw [B_size, B_mk]
  unfold pageB
  rw [flat2_length]
  simp
def loadE (size blocks : Int) (ps : List ByteArray) : Int :=
  if geoOK size blocks = false then 2 else if ¬ fitsP blocks.toNat (perOf size) ps then 4 else if (loadL ps).getD 0 0 = 1 ∧ (loadL ps).getD 1 0 = 1 then 0 else 4
theorem newL_length {n : Nat} (h : 2 ≤ n) : (newL n).length = n := by simp [newL]; omega
theorem fits_new {n per : Nat} {ps : List ByteArray} (h : 2 ≤ n) : sizes ps = sizes (pagesL (newL n) per) ↔ fitsP n per ps := by
  have := pagesL_sizes (newL n) per
  rw [newL_length h] at this
  unfold fitsP at this ⊢
  rw [this]
theorem spages_geo {size : Int} {n : Nat} (h : geoOK size n = true) : spages size n = ((cutsN n (perOf size) : Nat) : Int) := by
  unfold spages
  rw [if_pos h, Int.toNat_natCast]
theorem Cnt.merge {w : World} {b r m : Nat} {size : Int} {ps : List ByteArray} {N : List Nat} (h : Cnt w b r size [] (merge (loadL ps) N m)) (hl : (loadL ps).length = N.length) (hm : m < N.length) :
    Cnt (w.setCell ⟨r, m, none⟩ (.int .u16 ((loadL ps).getD m 0 : Int))) b r size [] (merge (loadL ps) N (m + 1)) ∧ w.grownBy (w.setCell ⟨r, m, none⟩ (.int .u16 ((loadL ps).getD m 0 : Int))) (some r) := by
  have hlt : (loadL ps).getD m 0 < 65536 := by
    rw [List.getD_eq_getElem?_getD, List.getElem?_eq_getElem (by omega)]
    exact loadL_lt ps _ (List.getElem_mem _)
  have := h.set (i := m) (by rw [merge_length hl]; exact hm) hlt
  rw [merge_set hm (by omega)] at this
  exact this
theorem load_calls {w : World} {size blocks : Int} {A : Option Addr} {np c : Nat} {ps : List ByteArray} (hp : Sli strE w A np ps) :
    Calls Tryz.prog 37 #[.agg #[.int .i64 size, .int .i64 blocks], .slice A np c] w (Ret fun v w' => ∃ x : Option Addr, v = .tuple #[.pointer x, .int .i64 (loadE size blocks ps)] ∧ (if loadE size blocks ps = 0 then ∃ b r, x = some ⟨b, 0, none⟩ ∧ Cnt w' b r size [] (loadL ps) ∧ w.heap.size ≤ b ∧ w.heap.size ≤ r else x = none) ∧ Ext w w') := by
  apply calls37
  unfold S37
  have hpl := hp.len
  have hple := hp.2.1
  apply newW_i
  have hb : Blk (w.alloc (.cells #[(.int .i64 size), (.int .i64 blocks)] 23)) w.heap.size [(.int .i64 size), (.int .i64 blocks)] 23 := Blk.new w _ _
  have he : Ext w (w.alloc (.cells #[(.int .i64 size), (.int .i64 blocks)] 23)) := (Ext.refl w).alloc _
  generalize w.alloc (.cells #[(.int .i64 size), (.int .i64 blocks)] 23) = w1 at hb he ⊢
  generalize hgb : w.heap.size = gb at hb ⊢
  refine ldA_blk (ls := [(.int .i64), (.int .i64)]) (x := (size, blocks, ())) hb rfl ?_
  refine callW_of (new_calls w1 size blocks) ?_
  rintro _ w2 ⟨x, rfl, hx, he2⟩
  refine ⟨(x, (if geoOK size blocks then 0 else 2), ()), rfl, ?_⟩
  have he02 := he.trans he2
  have hb2 := hb.ext he2
  apply newW_i
  have hr4 := Blk.new w2 #[.pointer none] 80
  have he3 := he02.alloc (.cells #[.pointer none] 80)
  have h23 := (Ext.refl w2).alloc (.cells #[.pointer none] 80)
  generalize w2.alloc (.cells #[.pointer none] 80) = w3 at hr4 he3 h23 ⊢
  have hs2 := he02.size
  have hs2' := he2.size
  have hs1 := hb.lt
  generalize hr4e : w2.heap.size = r4 at hr4 hs2 hs2' ⊢
  refine stW_blk hr4 (by simp) ?_
  have hr4 := hr4.set 0 (.pointer x)
  have hb3 := (hb2.ext h23).other (p := ⟨r4, 0, none⟩) (by simp only; omega) (.pointer x)
  have he4 := he3.set (p := ⟨r4, 0, none⟩) (by simp only; omega) (.pointer x)
  have h24 := h23.set (p := ⟨r4, 0, none⟩) (by simp only; omega) (.pointer x)
  generalize w3.setCell ⟨r4, 0, none⟩ (.pointer x) = w4 at hr4 hb3 he4 h24 ⊢
  dsimp only
  cases hok : geoOK size blocks with
  | false =>
    have e : loadE size blocks ps = 2 := by unfold loadE; rw [if_pos hok]
    rw [if_neg (by simp)]
    refine splitW_t (by rfl) ⟨none, by rw [e], by rw [e, if_neg (by omega)], he4⟩
  | true =>
  rw [if_pos rfl]
  refine splitW_f (by rfl) ?_
  rw [hok, if_pos rfl] at hx
  obtain ⟨b, r, rfl, hc, hbw, hrw⟩ := hx
  obtain ⟨h8, n, rfl, hn1, hn2⟩ := geo8 hok
  rw [Int.toNat_natCast] at hc
  have hbr4 : b < r4 := by have := hc.head.lt; omega
  have hrr4 : r < r4 := by have := hc.row.lt; omega
  have hc := hc.ext h24
  have hb0 : w.heap.size ≤ b := by have := he.size; omega
  have hr0 : w.heap.size ≤ r := by have := he.size; omega
  have hE : ∀ z, loadE size n ps = z ↔ (if ¬ fitsP n (perOf size) ps then 4 else if (loadL ps).getD 0 0 = 1 ∧ (loadL ps).getD 1 0 = 1 then 0 else 4) = z := fun z => by
    unfold loadE
    rw [if_neg (by rw [hok]; simp), Int.toNat_natCast]
  refine ldA_blk (ls := [(.int .i64), (.int .i64)]) (x := (size, (n : Int), ())) hb3 rfl ?_
  refine callW_of (spages_calls w4 size n) ?_
  rintro _ w5 ⟨rfl, he5⟩
  refine ⟨_, rfl, ?_⟩
  have he05 := he4.trans he5
  rw [spages_geo hok]
  obtain ⟨hp1, hp2, _⟩ := perOf_spec h8
  refine splitW_i (fun hne => ?_) (fun heq => ?_)
  · have hne := bne_iff_ne.1 hne
    have e : loadE size n ps = 4 := by
      rw [hE, if_pos]
      intro hf
      have := fitsP_len hf
      omega
    exact ⟨none, by rw [e], by rw [e, if_neg (by omega)], he05⟩
  refine ldW_blk (x := some ⟨b, 0, none⟩) (hr4.ext he5) (by rfl) ?_
  refine callW_of (pages_calls (hc.ext he5) h8) ?_
  rintro _ w6 ⟨⟨A2, n2, c2⟩, rfl, ho, he6⟩
  refine ⟨(A2, n2, c2), rfl, ?_⟩
  dsimp only at ho ⊢
  have he06 := he05.trans he6
  refine callW_of (eqfunc_calls (c := c) (c2 := c2) (hp.ext he06) ho.sl) ?_
  rintro _ w6 ⟨rfl, hw⟩
  subst hw
  refine ⟨_, rfl, ?_⟩
  have hper : ∃ per, per = perOf size := ⟨_, rfl⟩
  obtain ⟨per, hper⟩ := hper
  rw [← hper] at hp1 hp2 hE ⊢
  rw [show decide (sizes ps = sizes (pagesL (newL n) per)) = decide (fitsP n per ps) from decide_eq_decide.2 (fits_new (by omega))]
  by_cases hf : fitsP n per ps
  rotate_left
  · have e : loadE size n ps = 4 := by rw [hE, if_pos hf]
    rw [decide_eq_false hf]
    exact splitW_t (by rfl) ⟨none, by rw [e], by rw [e, if_neg (by omega)], he06⟩
  rw [decide_eq_true hf]
  refine splitW_f (by rfl) ?_
  have hDl := loadL_length (by omega) hf
  have hNl := newL_length (n := n) (by omega)
  have hbe := hb3.ext (he5.trans he6)
  have hr46 := hr4.ext (he5.trans he6)
  have hc6 := (hc.ext he5).ext he6
  clear hb hb2 hb3 hr4 hc ho he5 he6 h24 h23 he2 he02 he3 he4 he he05 hbe
  apply newW_i
  have hr10 := Blk.new w6 #[.int .i64 0] 3
  have he7 := he06.alloc (.cells #[.int .i64 0] 3)
  have h67 := (Ext.refl w6).alloc (.cells #[.int .i64 0] 3)
  have hr47 := hr46.alloc (.cells #[.int .i64 0] 3)
  have hc7 := hc6.ext h67
  have hs6 := he06.size
  have hr4lt := hr46.lt
  have hclt := hc6.head.lt
  have hrlt := hc6.row.lt
  generalize w6.alloc (.cells #[.int .i64 0] 3) = w7 at hr10 he7 hr47 hc7 ⊢
  generalize hr10e : w6.heap.size = r10 at hr10 hs6 hr4lt hclt hrlt ⊢
  refine stW_blk hr10 (by simp) ?_
  have hr10 := hr10.set 0 (.int .i64 0)
  have he8 := he7.set (p := ⟨r10, 0, none⟩) (by simp only; omega) (.int .i64 0)
  have hr48 := hr47.other (p := ⟨r10, 0, none⟩) (by simp only; omega) (.int .i64 0)
  have hc8 : Cnt (w7.setCell ⟨r10, 0, none⟩ (.int .i64 0)) b r size [] (newL n) := hc7.kept (k := r10) ⟨rfl, rfl, rfl, by simp, fun k hk hne => Below.heap_setCell _ _ _ _ (fun e => hne (by rw [e]))⟩ (by omega) (by omega)
  generalize w7.setCell ⟨r10, 0, none⟩ (.int .i64 0) = w8 at hr10 he8 hr48 hc8 ⊢
  -- the pages
  refine loopW_i (fun y w' => ∃ (i : Nat) (ds : List Deferred), i ≤ np ∧ y = ((i : Int), ds, ()) ∧ Ext w w' ∧ Blk w' r4 [.pointer (some ⟨b, 0, none⟩)] 80 ∧ Blk w' r10 [.int .i64 ((loadL (ps.take i)).length : Int)] 3 ∧ Cnt w' b r size [] (merge (loadL ps) (newL n) (loadL (ps.take i)).length) ∧ Dfs w.heap.size w' ds) (fun y => (np - y.1).toNat) ⟨0, [], by omega, rfl, he8, hr48, hr10, by rw [show (loadL (ps.take 0)).length = 0 by simp [loadL], merge_zero]; exact hc8, trivial⟩ ?_
  rintro _ w9 ⟨i, ds, hi, rfl, he9, hr49, hr109, hc9, hds⟩
  dsimp only
  have hat : (loadL (ps.take i)).length ≤ n := by rw [part_length hf i (by omega)]; omega
  by_cases hlt : i < np
  · refine splitW_t (decide_eq_true (by omega)) ?_
    refine idx_str (hp.ext he9) (by omega) (by omega) ?_
    rw [Int.toNat_natCast]
    have hip : i < ps.length := by omega
    have eg : ps.getD i ByteArray.empty = ps[i] := by simp [hip]
    rw [eg]
    have hsz := fitsP_size hf hip
    have hsu := part_succ hip
    have hsn : (loadL (ps.take (i + 1))).length ≤ n := by rw [part_length hf (i + 1) (by omega)]; omega
    have hgetw : ∀ k, k < (B ps[i]).length / 2 → (loadL ps).getD ((loadL (ps.take i)).length + k) 0 = lev (((B ps[i]).drop (2 * k)).take 2) := fun k hk => loadL_get hip hk
    generalize ps[i] = s at hsz hsu hgetw ⊢
    have hss := B_size s
    generalize hz : (loadL (ps.take i)).length = at0 at *
    refine conv_bytes (u := .string) (e := 5) (by kernel_rfl) (by kernel_rfl) (by kernel_rfl) (by omega) ?_
    intro cc w10 hsl he10 hs10 hcc
    refine callW_of (chunk8_calls (k := 2) (by omega) hcc (by dsimp only; omega)) ?_
    rintro v w11 ⟨hit, hRc, hs11, he11⟩
    refine ⟨v, rfl, ?_⟩
    dsimp only at hit hRc
    have he911 := he10.trans he11
    have he011 := he9.trans he911
    have hsl11 := hsl.ext he11
    have hr411 := hr49.ext he911
    have hr1011 := hr109.ext he911
    have hc11 := hc9.ext he911
    have hds11 : Dfs w.heap.size w11 ds := hds.kept fun k h1 _ => he911.heap h1
    have hs9 := he9.size
    have h4lt := hr49.lt
    have h10lt := hr109.lt
    have hblt := hc9.head.lt
    have hrlt2 := hc9.row.lt
    clear hds hsl hr49 hr109 hc9
    have hcn : (cutsV 1 (some ⟨w9.heap.size, 0, none⟩) s.size 2).length = s.size / 2 := by rw [cutsV_length]; unfold cutsN; omega
    refine range_i (R := RChunk8 w10.heap.size (w10.heap.size + 1) (some ⟨w9.heap.size, 0, none⟩) s.size cc 2) (fun k w' => Ext w w' ∧ RChunk8 w10.heap.size (w10.heap.size + 1) (some ⟨w9.heap.size, 0, none⟩) s.size cc 2 w' ∧ Sl w' (some ⟨w9.heap.size, 0, none⟩) s.size (bV (B s)) ∧ Blk w' r4 [.pointer (some ⟨b, 0, none⟩)] 80 ∧ Blk w' r10 [.int .i64 ((at0 + k : Nat) : Int)] 3 ∧ Cnt w' b r size [] (merge (loadL ps) (newL n) (at0 + k)) ∧ KeepD w11 w') hit (fun i w' hI => hI.2.1) (fun i w' hI => ⟨hI.1.drew, hI.2.1, hI.2.2.1, hI.2.2.2.1, hI.2.2.2.2.1, hI.2.2.2.2.2.1.ext (Ext.refl w').drew, hI.2.2.2.2.2.2⟩) ?_ ?_ ?_ ?_
    · rintro k w' w'' hsb ⟨e1, ⟨e2, e3⟩, e4, e5, e6, e7, e8⟩
      have hkeep : ∀ j : Nat, j < w11.heap.size → w''.heap[j]? = w'.heap[j]? := fun j hj => hsb.2.2.2.2 j (by omega) (by omega)
      refine ⟨e1.sameBut hsb (by omega) (by omega), ⟨(hkeep _ (by omega)).trans e2, (hkeep _ (by omega)).trans e3⟩, ⟨e4.1, e4.2.1, fun hn => ?_⟩, (hkeep _ (by omega)).trans e5, (hkeep _ (by omega)).trans e6, ⟨(hkeep _ (by omega)).trans e7.head, (hkeep _ (by omega)).trans e7.row, e7.ne, e7.len, e7.fits⟩, fun j hj => ?_⟩
      · obtain ⟨a, ha, hcell⟩ := e4.2.2 hn
        refine ⟨a, ha, fun j v hj => ?_⟩
        injection ha with ha
        subst ha
        have := hcell j v hj
        rw [add_mk] at this ⊢
        simp only [World.cell?] at this ⊢
        rw [hkeep _ (by omega)]
        exact this
      · have hjl : j < w11.heap.size := (Array.getElem?_eq_some_iff.1 hj).1
        rw [hkeep j hjl]
        exact e8 j hj
    · intro o
      have hx := ((Ext.refl w11).alloc (.deferred (some []))).alloc o
      exact ⟨he011.trans hx, ⟨hRc.1.ext hx, hRc.2.ext hx⟩, hsl11.ext hx, hr411.ext hx, hr1011.ext hx, hc11.ext hx, fun j hj => hx.heap hj⟩
    · rintro k hk w' N jump ⟨e1, ⟨e2, e3⟩, e4, e5, e6, e7, e8⟩ hsz' hN
      rw [hcn] at hk
      have hcut : (cutsV 1 (some ⟨w9.heap.size, 0, none⟩) s.size 2)[k]'(by rw [hcn]; exact hk) = [.slice (cutAddr (some ⟨w9.heap.size, 0, none⟩) (k * 2) (k * 2 + 2) 1) 2 2] := by
        have : min 2 (s.size - k * 2) = 2 := by omega
        simp [cutsV, this]
      refine ⟨((cutAddr (some ⟨w9.heap.size, 0, none⟩) (k * 2) (k * 2 + 2) 1, 2, 2), ()), hcut.symm, ?_⟩
      dsimp only
      have hsub := e4.cut (l := k * 2) (k := 2) (m := k * 2 + 2) (by omega) (by omega)
      rw [bV_drop, bV_take] at hsub
      have he1' : Ext w' w'.drew := (Ext.refl w').drew
      have e1 := e1.drew
      show (ldW _ _ _) w'.drew
      have e5' := e5.ext he1'
      have e6' := e6.ext he1'
      have e7' := e7.ext he1'
      have hsub := hsub.ext he1'
      generalize hwd : w'.drew = wd at *
      refine ldW_blk (x := some ⟨b, 0, none⟩) e5' (by rfl) (ptr_i ?_)
      refine ld_blk (o := 2) (x := (some ⟨r, 0, none⟩, (merge (loadL ps) (newL n) (at0 + k)).length, (merge (loadL ps) (newL n) (at0 + k)).length + 0)) e7'.head (by rfl) ?_
      refine ldW_blk (x := ((at0 + k : Nat) : Int)) e6' (by rfl) ?_
      refine callW_of (octof_calls hsub (by omega)) ?_
      rintro _ w12 ⟨rfl, he12⟩
      refine ⟨_, rfl, ?_⟩
      rw [show k * 2 = 2 * k by omega, ← hgetw k (by omega)]
      have hml := merge_length (D := loadL ps) (N := newL n) (by omega) (at0 + k)
      have hklt : at0 + k < n := by omega
      refine ⟨fun ls hls p hp => ?_, ?_⟩
      · simp only [List.mem_cons, List.not_mem_nil, or_false] at hls
        rcases hls with rfl | rfl | rfl <;> (simp only [List.mem_singleton] at hp; subst hp)
        · rw [(e6'.ext he12).cell]; rfl
        · rw [add_mk, (e7'.head.ext he12).cell]; rfl
        · rw [(e5'.ext he12).cell]; rfl
      dsimp only
      refine guard_i ⟨by omega, by omega⟩ (ptr_i ?_)
      rw [Int.toNat_natCast, Nat.mul_one, add_mk, Nat.zero_add]
      have hDlt : (loadL ps).getD (at0 + k) 0 < 65536 := by
        rw [List.getD_eq_getElem?_getD, List.getElem?_eq_getElem (by omega)]
        exact loadL_lt ps _ (List.getElem_mem _)
      rw [show IntKind.wrap .u16 (((loadL ps).getD (at0 + k) 0 : Nat) : Int) = (((loadL ps).getD (at0 + k) 0 : Nat) : Int) by rw [wrap_u16]; omega]
      have hc12 := e7'.ext he12
      obtain ⟨hc13, hg13⟩ := hc12.merge (m := at0 + k) (by omega) (by omega)
      refine stW_blk hc12.row (by rw [List.append_nil, length_uV]; omega) ?_
      have h1013 := (e6'.ext he12).grown hg13 (by simp; omega)
      have h413 := (e5'.ext he12).grown hg13 (by simp; omega)
      have he13 : Ext w _ := (e1.trans he12).grown hg13 (fun j hj => by injection hj with hj; omega)
      have hkeep13 : ∀ j : Nat, j < w'.heap.size → j ≠ r → (w12.setCell ⟨r, at0 + k, none⟩ (.int .u16 ((loadL ps).getD (at0 + k) 0 : Int))).heap[j]? = w'.heap[j]? := fun j hj hne => by
        have hdj : w'.drew.heap[j]? = w'.heap[j]? := rfl
        rw [hg13.block j (by have := he12.size; have := he1'.size; omega) (by simp; omega), he12.block j (by have := he1'.size; omega), ← hwd]
        exact hdj
      have hs13 := hg13.size
      generalize w12.setCell ⟨r, at0 + k, none⟩ (.int .u16 ((loadL ps).getD (at0 + k) 0 : Int)) = w13 at hc13 hg13 h1013 h413 he13 hkeep13 hs13 ⊢
      refine ldW_blk (x := ((at0 + k : Nat) : Int)) h1013 (by rfl) ?_
      refine stW_blk h1013 (by simp) ?_
      rw [wrap_i64 (by omega) (by omega), show ((at0 + k : Nat) : Int) + 1 = ((at0 + (k + 1) : Nat) : Int) by omega]
      have h1014 := h1013.set 0 (.int .i64 ((at0 + (k + 1) : Nat) : Int))
      have hset : ∀ j : Nat, j ≠ r10 → (w13.setCell ⟨r10, 0, none⟩ (.int .i64 ((at0 + (k + 1) : Nat) : Int))).heap[j]? = w13.heap[j]? := fun j hj => Below.heap_setCell _ _ _ _ (by simp only; omega)
      have hall : ∀ j : Nat, j < w'.heap.size → j ≠ r → j ≠ r10 → (w13.setCell ⟨r10, 0, none⟩ (.int .i64 ((at0 + (k + 1) : Nat) : Int))).heap[j]? = w'.heap[j]? := fun j h1 h2 h3 => (hset j h3).trans (hkeep13 j h1 h2)
      refine hN _ ⟨he13.set (by simp only; omega) _, ⟨(hall _ (by omega) (by omega) (by omega)).trans e2, (hall _ (by omega) (by omega) (by omega)).trans e3⟩, ⟨e4.1, e4.2.1, fun hn => ?_⟩, (hset _ (by omega)).trans h413, h1014, hc13.kept (k := r10) ⟨rfl, rfl, rfl, by simp, fun k hk hne => Below.heap_setCell _ _ _ _ (fun e => hne (by rw [e]))⟩ (by omega) (by omega), fun j hj => ?_⟩ (by have := he12.size; have := he1'.size; simp; omega) (fun j hj => hall j (by omega) (by omega) (by omega))
      · obtain ⟨a, ha, hcell⟩ := e4.2.2 hn
        refine ⟨a, ha, fun j v hj => ?_⟩
        injection ha with ha
        subst ha
        have := hcell j v hj
        rw [add_mk] at this ⊢
        simp only [World.cell?] at this ⊢
        rw [hall _ (by omega) (by omega) (by omega)]
        exact this
      · have hjl : j < w11.heap.size := (Array.getElem?_eq_some_iff.1 hj).1
        have hjr : j ≠ r := fun e => by rw [e, show w11.heap[r]? = _ from hc11.row] at hj; simp at hj
        have hjr10 : j ≠ r10 := fun e => by rw [e, show w11.heap[r10]? = _ from hr1011] at hj; simp at hj
        rw [hall j (by omega) hjr hjr10]
        exact e8 j hj
    · rintro w' ⟨e1, ⟨e2, e3⟩, e4, e5, e6, e7, e8⟩ hsz' hd
      rw [hcn] at e6 e7
      have e9 : at0 + s.size / 2 = (loadL (ps.take (i + 1))).length := by omega
      rw [e9] at e6 e7
      rw [wrap_i64 (by omega) (by omega)]
      refine ⟨⟨i + 1, ⟨.collected w11.heap.size, #[]⟩ :: ds, by omega, rfl, e1, e5, e6, e7, w11.heap.size, rfl, by omega, hd, fun d' hd' e => ?_, hds11.kept fun k h1 _ => e8 k h1⟩, by omega⟩
      have := hds11.lt d' hd' _ e
      omega
  · obtain rfl : i = np := by omega
    refine splitW_f (decide_eq_false (by omega)) ?_
    rw [List.take_of_length_le (by omega), show (loadL ps).length = (loadL ps).length from rfl, merge_full (by omega)] at hc9
    have hlen : (loadL ps).length = n := hDl
    have rd : ∀ {K : (Option Addr × Nat × Nat) → WP}, K (some ⟨r, 0, none⟩, (loadL ps).length, (loadL ps).length + 0) w9 → (ldW .ptr (⟨r4, 0, none⟩ : Addr) fun (u : Option Addr) => ptrW u fun (p : Addr) => ldW .slc (p.add 2) K) w9 := fun {K} hk =>
      ldW_blk (x := some ⟨b, 0, none⟩) hr49 (by rfl) (ptr_i (ld_blk (o := 2) (x := (some ⟨r, 0, none⟩, (loadL ps).length, (loadL ps).length + 0)) hc9.head (by rfl) hk))
    refine rd ?_
    dsimp only
    refine guard_i ⟨by omega, by omega⟩ (ptr_i ?_)
    refine ld_blk hc9.row (x := ((loadL ps).getD 0 0 : Nat)) (show (uV .u16 (loadL ps) ++ [])[Int.toNat 0 * 1]? = _ from uVq_get (i := 0) (by omega)) ?_
    have hE := hE
    refine splitW_i (fun h0 => ?_) (fun h0 => ?_)
    · have h0 := bne_iff_ne.1 h0
      have e : loadE size n ps = 4 := by rw [hE, if_neg (by simpa using hf), if_neg (by omega)]
      refine leave_all ds w9 hds fun w' hs => ⟨none, by rw [e], by rw [e, if_neg (by omega)], he9.sameDf hs⟩
    refine rd ?_
    dsimp only
    refine guard_i ⟨by omega, by omega⟩ (ptr_i ?_)
    refine ld_blk hc9.row (x := ((loadL ps).getD 1 0 : Nat)) (show (uV .u16 (loadL ps) ++ [])[Int.toNat 1 * 1]? = _ from uVq_get (i := 1) (by omega)) ?_
    refine splitW_i (fun h1 => ?_) (fun h1 => ?_)
    · have h1 := bne_iff_ne.1 h1
      have e : loadE size n ps = 4 := by rw [hE, if_neg (by simpa using hf), if_neg (by omega)]
      refine leave_all ds w9 hds fun w' hs => ⟨none, by rw [e], by rw [e, if_neg (by omega)], he9.sameDf hs⟩
    have h0 := bne_eq_false_iff_eq.1 h0
    have h1 := bne_eq_false_iff_eq.1 h1
    have e : loadE size n ps = 0 := by rw [hE, if_neg (by simpa using hf), if_pos (by omega)]
    refine ldW_blk (x := some ⟨b, 0, none⟩) hr49 (by rfl) ?_
    refine leave_all ds w9 hds fun w' hs => ⟨some ⟨b, 0, none⟩, by rw [e], ?_, he9.sameDf hs⟩
    rw [e, if_pos rfl]
    exact ⟨b, r, rfl, ⟨hc9.head.sameDf hs, hc9.row.sameDf hs, hc9.ne, hc9.len, hc9.fits⟩, by omega, by omega⟩
end Go.Proofs.YtjdmggaeagnolaaGreatDoor.V
/- Contracts of the package space: commit, Format. -/
namespace Go.Proofs.YtjdmggaeagnolaaGreatDoor.V
open Go Go.Proofs Go.RowKit Crc
def wrL (d : Dev) : List (Nat × Fra) → Dev × Int
  | [] => (d, 0)
  | kf :: r => if (writeF d kf.1 kf.2).2 ≠ 0 then writeF d kf.1 kf.2 else wrL (writeF d kf.1 kf.2).1 r
def pgFs (gen : Nat) (ps : List Nat) (l : List ByteArray) : List (Nat × Fra) := (ps.zip l).map fun p => (p.1, ((2 : UInt8), gen, p.2))
def commitD (d : Dev) (c : List Nat) (s : Sup) (slot : Int) : Dev × Int :=
  if (wrL d (pgFs s.gen s.pages (pagesL c (perOf d.size)))).2 ≠ 0 then wrL d (pgFs s.gen s.pages (pagesL c (perOf d.size)))
  else if (wrL d (pgFs s.gen s.pages (pagesL c (perOf d.size)))).1.flush.2 ≠ 0 then (wrL d (pgFs s.gen s.pages (pagesL c (perOf d.size)))).1.flush
  else if (putS s).2 ≠ 0 then ((wrL d (pgFs s.gen s.pages (pagesL c (perOf d.size)))).1.flush.1, (putS s).2)
  else if ((wrL d (pgFs s.gen s.pages (pagesL c (perOf d.size)))).1.flush.1.write slot (mkB (putS s).1)).2 ≠ 0 then (wrL d (pgFs s.gen s.pages (pagesL c (perOf d.size)))).1.flush.1.write slot (mkB (putS s).1)
  else ((wrL d (pgFs s.gen s.pages (pagesL c (perOf d.size)))).1.flush.1.write slot (mkB (putS s).1)).1.flush
theorem Step.pre {w w1 w2 : World} {db : Nat} {Fd F1 : Nat → Prop} {d : Dev} (hO : Only Fd w w1) (hF : ∀ k, F1 k → Fd k ∨ w.heap.size ≤ k) (h : Step w1 db F1 d w2) : Step w db Fd d w2 := by
  obtain ⟨F2, g1, g2, g3⟩ := h
  refine ⟨F2, g1, fun k hk => ?_, Only.trans hO g3 hF⟩
  rcases g2 k hk with e | e
  · exact hF k e
  · exact .inr (Nat.le_trans hO.2.2.2.1 e)
theorem write_dim (d : Dev) (k : Int) (s : ByteArray) : (d.write k s).1.size = d.size ∧ (d.write k s).1.blocks = d.blocks ∧ (d.write k s).1.pen.length ≤ d.pen.length + 1 := by
  unfold Dev.write
  split
  · exact ⟨rfl, rfl, by simp⟩
  · split
    · exact ⟨rfl, rfl, by simp⟩
    · exact ⟨rfl, rfl, by simp⟩
theorem writeF_dim (d : Dev) (k : Int) (f : Fra) : (writeF d k f).1.size = d.size ∧ (writeF d k f).1.blocks = d.blocks ∧ (writeF d k f).1.pen.length ≤ d.pen.length + 1 := by
  unfold writeF
  split
  · exact ⟨rfl, rfl, by simp⟩
  · exact write_dim _ _ _
theorem flush_dim (d : Dev) : d.flush.1.size = d.size ∧ d.flush.1.blocks = d.blocks ∧ d.flush.1.pen.length ≤ d.pen.length := by
  unfold Dev.flush
  split
  · exact ⟨rfl, rfl, Nat.le_refl _⟩
  · exact ⟨rfl, rfl, by simp⟩
theorem wrL_dim : ∀ (l : List (Nat × Fra)) (d : Dev), (wrL d l).1.size = d.size ∧ (wrL d l).1.blocks = d.blocks ∧ (wrL d l).1.pen.length ≤ d.pen.length + l.length
  | [], d => ⟨rfl, rfl, by simp [wrL]⟩
  | kf :: r, d => by
    obtain ⟨h1, h2, h3⟩ := writeF_dim d kf.1 kf.2
    unfold wrL
    split
    · exact ⟨h1, h2, by simp only [List.length_cons]; omega⟩
    · obtain ⟨g1, g2, g3⟩ := wrL_dim r (writeF d kf.1 kf.2).1
      exact ⟨g1.trans h1, g2.trans h2, by simp only [List.length_cons]; omega⟩
theorem pagesL_length (l : List Nat) (per : Nat) : (pagesL l per).length = cutsN l.length per := by simp [pagesL]
theorem pgFs_get {gen : Nat} {ps : List Nat} {l : List ByteArray} (h : ps.length = l.length) {i : Nat} (hi : i < l.length) : (pgFs gen ps l)[i]? = some (ps.getD i 0, ((2 : UInt8), gen, l.getD i ByteArray.empty)) := by
  unfold pgFs
  rw [List.getElem?_map, List.getElem?_zip_eq_some.2 (show ps[i]? = some (ps.getD i 0, l.getD i ByteArray.empty).1 ∧ l[i]? = some (ps.getD i 0, l.getD i ByteArray.empty).2 from ⟨?_, ?_⟩)]
  · rfl
  · show ps[i]? = some (ps.getD i 0)
    rw [List.getD_eq_getElem?_getD, List.getElem?_eq_getElem (by omega)]; rfl
  · show l[i]? = some (l.getD i ByteArray.empty)
    rw [List.getD_eq_getElem?_getD, List.getElem?_eq_getElem (by omega)]; rfl
theorem pgFs_length {gen : Nat} {ps : List Nat} {l : List ByteArray} (h : ps.length = l.length) : (pgFs gen ps l).length = l.length := by
  unfold pgFs
  rw [List.length_map, List.length_zip, h, Nat.min_self]
theorem commit_calls {w : World} {db : Nat} {d : Dev} {Fd : Nat → Prop} (h : DevAt w db d Fd) {cb cr : Nat} {q : List Value} {c : List Nat} (hc : Cnt w cb cr d.size q c) {s : Sup} {x : SLC} (hf : s.Fits) (hp : Pg w x s.pages)
    (hx : ∀ a, x.1 = some a → ¬ Fd a.block) (hlen : s.pages.length = cutsN c.length (perOf d.size)) (hpen : d.pen.length ≤ 900000) (slot : Int) :
    Calls Tryz.prog 46 #[.pointer (some ⟨db, 0, none⟩), .pointer (some ⟨cb, 0, none⟩), .agg (sV s x).toArray, .int .i64 slot] w (Ret fun v w' => v = .int .i64 (commitD d c s slot).2 ∧ Step w db Fd (commitD d c s slot).1 w') := by
  have hgeo := h.ok.geo
  obtain ⟨h8, _⟩ := geo8 hgeo
  obtain ⟨hper1, hper2, _⟩ := perOf_spec h8
  have hcl := hc.len
  have hFlt := h.lt
  have hPl := pagesL_length c (perOf d.size)
  have hnp : cutsN c.length (perOf d.size) ≤ 4096 := by
    unfold cutsN
    rw [Nat.div_le_iff_le_mul_add_pred (by omega)]
    have : 4096 * 56 ≤ 4096 * perOf d.size := Nat.mul_le_mul_left _ hper1
    have : perOf d.size * 4096 = 4096 * perOf d.size := Nat.mul_comm _ _
    omega
  apply calls46
  unfold S46 commitD
  refine new_i fun r1 w1 hb1 he1 hr1 hz1 => ?_
  have hb1 : Blk w1 r1 (sV s x) 79 := hb1
  refine callW_of (pages_calls (hc.ext he1) h8) ?_
  rintro _ w2 ⟨y, rfl, ho2, he2⟩
  refine ⟨y, rfl, ?_⟩
  have hb1 := hb1.ext he2
  have he := he1.trans he2
  have hr1lt := hb1.lt
  have hyl := ho2.len
  have hpl := hp.len
  have hp2 := hp.ext he
  generalize hL : pgFs s.gen s.pages (pagesL c (perOf d.size)) = L at *
  have hLl : L.length = y.2.1 := by rw [← hL, pgFs_length (by omega)]; exact hyl
  have hy1 : ∀ j, orow y.1 = some j → w1.heap.size ≤ j ∧ j < w2.heap.size := fun j hj => ⟨ho2.row j hj, ho2.row_lt j hj⟩
  refine loopW_i (fun y' w' => ∃ (i : Nat) (di : Dev) (Fi : Nat → Prop), i ≤ y.2.1 ∧ y' = ((i : Int), ()) ∧ DevAt w' db di Fi ∧ (∀ k, Fi k → Fd k ∨ w2.heap.size ≤ k) ∧ Only Fd w2 w' ∧ wrL d L = wrL di (L.drop i) ∧ di.size = d.size ∧ di.pen.length ≤ d.pen.length + i) (fun y' => (y.2.1 - y'.1).toNat)
    ⟨0, d, Fd, by omega, rfl, h.ext he, fun k hk => .inl hk, Only.refl _ _, rfl, rfl, by omega⟩ ?_
  rintro _ w3 ⟨i, di, Fi, hi, rfl, hDi, hFi, hOi, hwr, hdz, hdp⟩
  dsimp only
  have hnFi : ∀ j, w.heap.size ≤ j → j < w2.heap.size → ¬ Fi j := fun j h1 h2 hf' => by
    rcases hFi j hf' with e | e
    · have := hFlt j e; omega
    · omega
  have hnFd : ∀ j, w.heap.size ≤ j → ¬ Fd j := fun j h1 hf' => by have := hFlt j hf'; omega
  have hb3 := hb1.only hOi (hnFd r1 (by omega))
  have hz := he1.size
  have ho3 := ho2.only hOi (fun j hj => hnFd j (by have := hy1 j hj; omega))
  have hp3 : Pg w3 x s.pages := ⟨hp2.sl.only hOi hx, hp2.nc⟩
  have oi : Only Fd w w3 := Only.trans (Only.of_ext he) hOi (fun j hj => .inl hj)
  have hFi' : ∀ k, Fi k → Fd k ∨ w.heap.size ≤ k := fun k hk => by
    rcases hFi k hk with e | e
    · exact .inl e
    · exact .inr (Nat.le_trans he.size e)
  by_cases hlt : i < y.2.1
  · refine splitW_t (decide_eq_true (by omega)) ?_
    refine idx_str ho3.sl (by omega) (by omega) ?_
    rw [Int.toNat_natCast]
    refine draw_i fun w4 he4 _ _ => ?_
    refine boxF (l := .slc) 4 x (hb3.ext he4) (by rfl) ?_
    refine idx_num (hp3.sl.ext he4) (by omega) (by omega) ?_
    rw [Int.toNat_natCast]
    refine box0 (s.gen : Int) (hb3.ext he4) (by rfl) ?_
    have hpi := hf.at_ i
    refine callW_of (writeF_calls (hDi.ext he4) (s.pages.getD i 0) hpi ((2 : UInt8), s.gen, (pagesL c (perOf d.size)).getD i ByteArray.empty) hf.gen (by omega)) ?_
    rintro _ w5 ⟨rfl, hst⟩
    refine ⟨_, rfl, ?_⟩
    have eL : L.drop i = (s.pages.getD i 0, ((2 : UInt8), s.gen, (pagesL c (perOf d.size)).getD i ByteArray.empty)) :: L.drop (i + 1) := by
      have := pgFs_get (gen := s.gen) (ps := s.pages) (l := pagesL c (perOf d.size)) (by omega) (i := i) (by omega)
      rw [hL] at this
      obtain ⟨h1, h2⟩ := List.getElem?_eq_some_iff.1 this
      rw [List.drop_eq_getElem_cons h1, h2]
    rw [eL] at hwr
    have hst' : Step w3 db Fi _ w5 := Step.pre (Only.of_ext he4) (fun k hk => .inl hk) hst
    have hdim := writeF_dim di (s.pages.getD i 0) ((2 : UInt8), s.gen, (pagesL c (perOf d.size)).getD i ByteArray.empty)
    refine splitW_i (fun hq => ?_) (fun hq => ?_)
    · have hq := bne_iff_ne.1 hq
      have e1 : wrL d L = writeF di (s.pages.getD i 0) ((2 : UInt8), s.gen, (pagesL c (perOf d.size)).getD i ByteArray.empty) := by
        rw [hwr, wrL, if_pos hq]
      rw [e1, if_pos hq]
      exact ⟨rfl, Step.pre oi hFi' hst'⟩
    · have hq := bne_eq_false_iff_eq.1 hq
      obtain ⟨F5, g1, g2, g3⟩ := hst'
      refine ⟨⟨i + 1, _, F5, by omega, by rw [wrap_i64 (by omega) (by omega)]; rfl, g1, fun k hk => ?_, Only.trans hOi g3 hFi, by rw [hwr, wrL, if_neg (fun hh => hh hq)], hdim.1.trans hdz, by omega⟩, by rw [wrap_i64 (by omega) (by omega)]; omega⟩
      rcases g2 k hk with e | e
      · exact hFi k e
      · exact .inr (Nat.le_trans hOi.2.2.2.1 e)
  obtain rfl : i = y.2.1 := by omega
  refine splitW_f (decide_eq_false (by omega)) ?_
  rw [List.drop_of_length_le (by omega), wrL] at hwr
  rw [hwr, if_neg (fun hh => hh rfl)]
  dsimp only
  refine callW_of (flush_calls hDi) ?_
  rintro _ w4 ⟨rfl, hst⟩
  refine ⟨_, rfl, ?_⟩
  refine splitW_i (fun hq => ?_) (fun hq => ?_)
  · have hq := bne_iff_ne.1 hq
    rw [if_pos hq]
    exact ⟨rfl, Step.pre oi hFi' hst⟩
  have hq := bne_eq_false_iff_eq.1 hq
  rw [if_neg (fun hh => hh hq)]
  obtain ⟨F4, g1, g2, g3⟩ := hst
  have hF4 : ∀ k, F4 k → Fd k ∨ w2.heap.size ≤ k := fun k hk => by
    rcases g2 k hk with e | e
    · exact hFi k e
    · exact .inr (Nat.le_trans hOi.2.2.2.1 e)
  have hF4' : ∀ k, F4 k → Fd k ∨ w.heap.size ≤ k := fun k hk => by
    rcases hF4 k hk with e | e
    · exact .inl e
    · exact .inr (Nat.le_trans he.size e)
  have o4 : Only Fd w w4 := Only.trans oi g3 hFi'
  have o24 : Only Fd w2 w4 := Only.trans hOi g3 hFi
  have hb4 := hb1.only o24 (hnFd r1 (by omega))
  have hp4 : Pg w4 x s.pages := ⟨hp2.sl.only o24 hx, hp2.nc⟩
  have hfd := flush_dim di
  refine boxA (ls := sLs) (sT s x) hb4 rfl ?_
  refine callW_of (sput_calls hf hp4) ?_
  rintro _ w5 ⟨rfl, he5⟩
  refine ⟨(⟨(putS s).1.toArray⟩, (putS s).2, ()), rfl, ?_⟩
  have o5 : Only Fd w w5 := Only.trans o4 (Only.of_ext (F := Fd) he5) (fun j hj => .inl hj)
  refine splitW_i (fun hq => ?_) (fun hq => ?_)
  · have hq := bne_iff_ne.1 hq
    rw [if_pos hq]
    exact ⟨rfl, Step.pre o5 hF4' ⟨F4, g1.ext he5, fun k hk => .inl hk, Only.refl _ _⟩⟩
  have hq := bne_eq_false_iff_eq.1 hq
  rw [if_neg (fun hh => hh hq)]
  refine callW_of (write_calls (g1.ext he5) slot (mkB (putS s).1) (by omega)) ?_
  rintro _ w6 ⟨rfl, hst⟩
  refine ⟨_, rfl, ?_⟩
  refine splitW_i (fun hq => ?_) (fun hq => ?_)
  · have hq := bne_iff_ne.1 hq
    rw [if_pos hq]
    exact ⟨rfl, Step.pre o5 hF4' hst⟩
  have hq := bne_eq_false_iff_eq.1 hq
  rw [if_neg (fun hh => hh hq)]
  obtain ⟨F6, k1, k2, k3⟩ := hst
  have hF6' : ∀ k, F6 k → Fd k ∨ w.heap.size ≤ k := fun k hk => by
    rcases k2 k hk with e | e
    · exact hF4' k e
    · exact .inr (Nat.le_trans o5.2.2.2.1 e)
  refine callW_of (flush_calls k1) ?_
  rintro _ w7 ⟨rfl, hst⟩
  exact ⟨_, rfl, rfl, Step.pre (Only.trans o5 k3 hF4') hF6' hst⟩
end Go.Proofs.YtjdmggaeagnolaaGreatDoor.V
/- Contracts of the package space: Format. -/
namespace Go.Proofs.YtjdmggaeagnolaaGreatDoor.V
open Go Go.Proofs Go.RowKit Crc
def fmtN (size : Int) (N : Nat) : Nat := cutsN N (perOf size)
def fmtP (np : Nat) : List Nat := (List.range np).map (· + 2)
def fmtC (N np : Nat) : List Nat := List.replicate (2 + np) 1 ++ List.replicate (N - 2 - np) 0
def fmtS (size : Int) (N : Nat) : Sup := ⟨1, size, (N : Int), 0, fmtP (fmtN size N)⟩
def formatD (d : Dev) : Dev × Int :=
  if chk (fmtS d.size d.blocks.toNat) ≠ 0 then (d, chk (fmtS d.size d.blocks.toNat))
  else if (d.write 1 (zeroB d.size.toNat)).2 ≠ 0 then d.write 1 (zeroB d.size.toNat)
  else commitD (d.write 1 (zeroB d.size.toNat)).1 (fmtC d.blocks.toNat (fmtN d.size d.blocks.toNat)) (fmtS d.size d.blocks.toNat) 0
def formatS (d : Dev) : Spa := ⟨(formatD d).1, fmtS d.size d.blocks.toNat, 0, fmtC d.blocks.toNat (fmtN d.size d.blocks.toNat), fmtC d.blocks.toNat (fmtN d.size d.blocks.toNat), none⟩
theorem fmtN_le {size : Int} {N : Nat} (h : geoOK size N = true) : fmtN size N + 2 ≤ N ∧ N ≤ 4096 ∧ 1 ≤ fmtN size N := by
  obtain ⟨h8, n, hn, h1, h2⟩ := geo8 h
  obtain rfl : N = n := by omega
  obtain ⟨hp1, hp2, _⟩ := perOf_spec h8
  have hx : cutsN N (perOf size) ≤ (N + 55) / 56 := by
    unfold cutsN
    rw [Nat.div_le_iff_le_mul_add_pred (by omega)]
    have h3 : N + 55 < 56 * ((N + 55) / 56 + 1) := Nat.lt_mul_div_succ _ (by omega)
    have h4 : 56 * ((N + 55) / 56) ≤ perOf size * ((N + 55) / 56) := Nat.mul_le_mul_right _ hp1
    omega
  have h0 : 0 < cutsN N (perOf size) := by
    have := (cutsN_lt (n := N) (k := perOf size) (i := 0) (by omega)).2 (by omega)
    exact this
  unfold fmtN
  omega
theorem fmtC_length {N np : Nat} (h : np + 2 ≤ N) : (fmtC N np).length = N := by simp [fmtC]; omega
theorem fmtC_get {N np k : Nat} (h : np + 2 ≤ N) : (fmtC N np).getD k 0 = if k < np + 2 then 1 else 0 := by
  unfold fmtC
  rw [List.getD_eq_getElem?_getD]
  by_cases hk : k < np + 2
  · rw [if_pos hk, List.getElem?_append_left (by simp; omega), List.getElem?_replicate, if_pos (by omega)]
    rfl
  · rw [if_neg hk, List.getElem?_append_right (by simp; omega), List.getElem?_replicate]
    split <;> rfl
theorem fmtC_zero {N : Nat} (h : 2 ≤ N) : fmtC N 0 = newL N := by
  unfold fmtC newL
  rfl
theorem fmtC_take {N i : Nat} (h : i + 3 ≤ N) : takeN (fmtC N i) [] = i + 2 ∧ takeE (fmtC N i) [] = 0 ∧ takeL (fmtC N i) [] = fmtC N (i + 1) := by
  have hl := fmtC_length (N := N) (np := i) (by omega)
  have ht : takeI (fmtC N i) [] = i + 2 := by
    unfold takeI
    rw [hl]
    refine findIdx_is (by omega) (freeAt_iff.2 ⟨?_, by simp⟩) (fun j hj => ?_)
    · rw [fmtC_get (by omega), if_neg (by omega)]
    · cases hq : freeAt (fmtC N i) [] j with
      | false => rfl
      | true =>
        have := (freeAt_iff.1 hq).1
        rw [fmtC_get (by omega), if_pos (by omega)] at this
        cases this
  refine ⟨?_, ?_, ?_⟩
  · unfold takeN; rw [ht, if_pos (by omega)]
  · unfold takeE; rw [ht, if_pos (by omega)]
  · unfold takeL
    rw [ht, if_pos (by omega)]
    refine list_ext_getD (by rw [List.length_set, hl, fmtC_length (by omega)]) (fun k => ?_)
    rw [getD_setN, fmtC_get (by omega), fmtC_get (by omega), hl]
    by_cases hk : i + 2 = k
    · subst hk
      rw [if_pos ⟨rfl, by omega⟩, if_pos (by omega)]
    · rw [if_neg (fun e => hk e.1)]
      by_cases hk2 : k < i + 2
      · rw [if_pos hk2, if_pos (by omega)]
      · rw [if_neg hk2, if_neg (by omega)]
theorem fmtP_succ (i : Nat) : fmtP (i + 1) = fmtP i ++ [i + 2] := by simp [fmtP, List.range_succ]
theorem fmtP_length (i : Nat) : (fmtP i).length = i := by simp [fmtP]
theorem fmtS_fits {size : Int} {N : Nat} (h : geoOK size N = true) : (fmtS size N).Fits := by
  have hd := geo_dims h
  have := fmtN_le h
  refine ⟨by show 1 < _; omega, by show _ ≤ size ∧ size < _; omega, by show _ ≤ (N : Int) ∧ (N : Int) < _; omega, by show 0 < _; omega, fun p hp => ?_⟩
  have hp : p ∈ fmtP (fmtN size N) := hp
  unfold fmtP at hp
  obtain ⟨i, hi, rfl⟩ := List.mem_map.1 hp
  have := List.mem_range.1 hi
  omega
theorem commitD_dim (d : Dev) (c : List Nat) (s : Sup) (slot : Int) : (commitD d c s slot).1.size = d.size ∧ (commitD d c s slot).1.blocks = d.blocks := by
  have h1 := wrL_dim (pgFs s.gen s.pages (pagesL c (perOf d.size))) d
  have h2 := flush_dim (wrL d (pgFs s.gen s.pages (pagesL c (perOf d.size)))).1
  have h3 := write_dim (wrL d (pgFs s.gen s.pages (pagesL c (perOf d.size)))).1.flush.1 slot (mkB (putS s).1)
  have h4 := flush_dim ((wrL d (pgFs s.gen s.pages (pagesL c (perOf d.size)))).1.flush.1.write slot (mkB (putS s).1)).1
  unfold commitD
  split
  · exact ⟨h1.1, h1.2.1⟩
  split
  · exact ⟨h2.1.trans h1.1, h2.2.1.trans h1.2.1⟩
  split
  · exact ⟨h2.1.trans h1.1, h2.2.1.trans h1.2.1⟩
  split
  · exact ⟨h3.1.trans (h2.1.trans h1.1), h3.2.1.trans (h2.2.1.trans h1.2.1)⟩
  · exact ⟨h4.1.trans (h3.1.trans (h2.1.trans h1.1)), h4.2.1.trans (h3.2.1.trans (h2.2.1.trans h1.2.1))⟩
theorem format_calls {w : World} {db : Nat} {d : Dev} {Fd : Nat → Prop} (h : DevAt w db d Fd) (hpen : d.pen.length ≤ 800000) :
    Calls Tryz.prog 52 #[.pointer (some ⟨db, 0, none⟩)] w (Ret fun v w' => ((formatD d).2 ≠ 0 ∧ v = .tuple #[.pointer none, .int .i64 (formatD d).2] ∧ Step w db Fd (formatD d).1 w') ∨
      ((formatD d).2 = 0 ∧ ∃ b F, v = .tuple #[.pointer (some ⟨b, 0, none⟩), .int .i64 0] ∧ SpAt w' b db (formatS d) F ∧ w.heap.size ≤ b ∧ (∀ k, F k → Fd k ∨ w.heap.size ≤ k) ∧ Only Fd w w')) := by
  have hgeo := h.ok.geo
  obtain ⟨h8, N, hN, hN8, hNm⟩ := geo8 hgeo
  have hNt : d.blocks.toNat = N := by omega
  have hg' : geoOK d.size (N : Int) = true := by rw [← hN]; exact hgeo
  obtain ⟨hnp1, hnp2, hnp3⟩ := fmtN_le hg'
  have hdim := geo_dims hgeo
  have hFlt := h.lt
  have hff := fmtS_fits hg'
  apply calls52
  unfold S52 formatD
  rw [hNt]
  refine splitW_f (by rfl) ?_
  refine callW_of (geo_calls h) ?_
  rintro _ w1 ⟨rfl, he1⟩
  refine ⟨(d.size, d.blocks, ()), rfl, ?_⟩
  refine callW_of (new_calls w1 d.size d.blocks) ?_
  rintro _ w2 ⟨y, rfl, hc2, he2⟩
  rw [if_pos hgeo] at hc2
  obtain ⟨cb, cr, rfl, hc2, hcb, hcr⟩ := hc2
  refine ⟨(some ⟨cb, 0, none⟩, (if geoOK d.size d.blocks then 0 else 2), ()), rfl, ?_⟩
  rw [if_pos hgeo]
  dsimp only
  refine splitW_f (by rfl) ?_
  rw [hNt, ← fmtC_zero (by omega)] at hc2
  have he := he1.trans he2
  refine callW_of (geo_calls (h.ext he)) ?_
  rintro _ w3 ⟨rfl, he3⟩
  refine ⟨(d.size, d.blocks, ()), rfl, ?_⟩
  have he3' := he.trans he3
  refine boxedS (s := ⟨1, d.size, d.blocks, 0, []⟩) (x := (none, 0, 0)) (by rfl) (fun r4 w4 hb4 he4 hr4 => ?_)
  have he4' := he3'.trans he4
  refine callW_of (geo_calls (h.ext he4')) ?_
  rintro _ w5 ⟨rfl, he5⟩
  refine ⟨(d.size, d.blocks, ()), rfl, ?_⟩
  refine callW_of (spages_calls w5 d.size d.blocks) ?_
  rintro _ w6 ⟨rfl, he6⟩
  rw [hN, spages_geo hg']
  refine ⟨_, rfl, ?_⟩
  have he46 := he5.trans he6
  have he6' := he4'.trans he46
  have hb6 := hb4.ext he46
  have hc6 := ((hc2.ext he3).ext he4).ext he46
  have hr4lt : r4 < w6.heap.size := hb6.lt
  have hcblt : cb < w3.heap.size := (hc2.ext he3).head.lt
  have hcrlt : cr < w3.heap.size := (hc2.ext he3).row.lt
  have hs1 := he1.size
  have hs3 := he3.size
  have hs2 := he2.size
  rw [hN] at hb6
  show loopW _ _ _ w6
  have hnpe : fmtN d.size N = cutsN N (perOf d.size) := rfl
  rw [← hnpe]
  refine loopW_i (fun y w' => ∃ (i : Nat) (A : Option Addr) (c : Nat), i ≤ fmtN d.size N ∧ y = ((i : Int), ()) ∧ Ext w w' ∧ w6.heap.size ≤ w'.heap.size ∧ Cnt w' cb cr d.size [] (fmtC N i) ∧ Blk w' r4 (sV ⟨1, d.size, (N : Int), 0, []⟩ (A, i, c)) 79 ∧ Owni (numE .u32) 31 w' w6.heap.size A i c (fmtP i)) (fun y => (fmtN d.size N - y.1).toNat)
    ⟨0, none, 0, by omega, rfl, he6', Nat.le_refl _, hc6, hb6, Owni.nil _ _ _⟩ ?_
  rintro _ w7 ⟨i, A, c, hi, rfl, he7, hz7, hc7, hb7, ho7⟩
  dsimp only
  by_cases hlt : i < fmtN d.size N
  · refine splitW_t (decide_eq_true (by omega)) ?_
    obtain ⟨t1, t2, t3⟩ := fmtC_take (N := N) (i := i) (by omega)
    refine callW_of (take_calls hc7 (.inl ⟨rfl, rfl⟩)) ?_
    rintro _ w8 ⟨rfl, hc8, hg8⟩
    rw [t3] at hc8
    refine ⟨(((takeN (fmtC N i) [] : Nat) : Int), takeE (fmtC N i) [], ()), rfl, ?_⟩
    rw [t1, t2]
    refine splitW_f (by rfl) ?_
    have hb8 := hb7.grown hg8 (by simp; omega)
    have ho8 := ho7.grown hg8 (fun j hj e => by injection hj with hj; subst hj; have := ho7.row _ e; omega)
    refine boxF (l := .slc) 4 (A, i, c) hb8 (by rfl) ?_
    dsimp only
    have hle := ho8.le
    refine append_newi (E := numE .u32) (ys := [i + 2]) (by rfl) rfl elem_u32 ho8 (by have := hg8.size; omega) (by omega) (by omega) ?_
    intro A' c' w9 ho9 hg9
    have hx9 : ∀ j, orow A = some j → w6.heap.size ≤ j := fun j hj => ho8.row j hj
    have hb9 := hb8.grown hg9.grown (fun e => by have := hx9 r4 e.symm; omega)
    have hc9 : Cnt w9 cb cr d.size [] (fmtC N (i + 1)) := ⟨hc8.head.grown hg9.grown (fun e => by have := hx9 cb e.symm; have := he4.size; have := he46.size; omega), hc8.row.grown hg9.grown (fun e => by have := hx9 cr e.symm; have := he4.size; have := he46.size; omega), hc8.ne, hc8.len, hc8.fits⟩
    have he9 : Ext w w9 := (he7.grown hg8 (fun j hj => by injection hj with hj; omega)).grown hg9.grown (fun j hj => by have := hx9 j hj; have := he6'.size; omega)
    rw [add_mk]
    refine stW_blk hb9 (by show 0 + 4 < 5; omega) ?_
    have hg10 := set_grown w9 r4 (0 + 4) (.slice A' (i + 1) c')
    have hb10 := hb9.set (0 + 4) (.slice A' (i + 1) c')
    refine ⟨⟨i + 1, A', c', by omega, by rw [wrap_i64 (by omega) (by omega)]; rfl, he9.grown hg10 (fun j hj => by injection hj with hj; omega), ?_, hc9.kept hg10 (by omega) (by omega), hb10, ?_⟩, by rw [wrap_i64 (by omega) (by omega)]; omega⟩
    · exact Nat.le_trans (Nat.le_trans (Nat.le_trans hz7 hg8.size) hg9.grown.size) hg10.size
    · rw [fmtP_succ]
      exact ho9.grown hg10 (fun j hj e => by injection hj with hj; have := ho9.row _ e; omega)
  obtain rfl : i = fmtN d.size N := by omega
  refine splitW_f (decide_eq_false (by omega)) ?_
  have hb7 : Blk w7 r4 (sV (fmtS d.size N) (A, fmtN d.size N, c)) 79 := hb7
  have hpg7 : Pg w7 (A, fmtN d.size N, c) (fmtS d.size N).pages := ⟨ho7.sl, ho7.le.1⟩
  have stay : ∀ {w' : World}, Ext w w' → Step w db Fd d w' := fun e => ⟨Fd, h.ext e, fun k hk => .inl hk, Only.of_ext e⟩
  refine boxA (ls := sLs) (sT (fmtS d.size N) (A, fmtN d.size N, c)) hb7 rfl ?_
  refine callW_of (check_calls hff hpg7) ?_
  rintro _ w8 ⟨rfl, he8⟩
  refine ⟨_, rfl, ?_⟩
  have he8' := he7.trans he8
  refine splitW_i (fun hq => ?_) (fun hq => ?_)
  · have hq := bne_iff_ne.1 hq
    rw [if_pos hq]
    exact .inl ⟨hq, rfl, stay he8'⟩
  have hq0 := bne_eq_false_iff_eq.1 hq
  rw [if_neg (fun hh => hh hq0)]
  refine callW_of (geo_calls (h.ext he8')) ?_
  rintro _ w9 ⟨rfl, he9⟩
  refine ⟨(d.size, d.blocks, ()), rfl, ?_⟩
  dsimp only
  obtain ⟨z, hz⟩ : ∃ z : Nat, d.size = (z : Int) := ⟨d.size.toNat, by omega⟩
  rw [hz]
  refine make_own (kl := .i64) (kc := .i64) (B := w9.heap.size) (z := .int .u8 0) (bytes := 1) elem_u8 (by rfl) (Nat.le_refl _) (by omega) (by omega) ?_
  intro w10 ho10 hg10
  have he10 : Ext w9 w10 := (Ext.refl w9).grown hg10 (fun j hj => by cases hj)
  have hrep : (List.replicate z (Value.int .u8 0)) = bV (List.replicate z 0) := by simp [bV]
  rw [hrep] at ho10
  refine conv_str (e := 5) (by kernel_rfl) (by kernel_rfl) (by kernel_rfl) ho10.sl ?_
  have hzb : (⟨(List.replicate z (0 : UInt8)).toArray⟩ : ByteArray) = zeroB d.size.toNat := by rw [hz]; rfl
  rw [hzb]
  have he810 := he9.trans he10
  have he10' := he8'.trans he810
  refine callW_of (write_calls (h.ext he10') 1 (zeroB d.size.toNat) (by omega)) ?_
  rintro _ w11 ⟨rfl, hst⟩
  refine ⟨_, rfl, ?_⟩
  rw [← hz]
  refine splitW_i (fun hq => ?_) (fun hq => ?_)
  · have hq := bne_iff_ne.1 hq
    rw [if_pos hq]
    exact .inl ⟨hq, rfl, Step.pre (Only.of_ext he10') (fun k hk => .inl hk) hst⟩
  have hq1 := bne_eq_false_iff_eq.1 hq
  rw [if_neg (fun hh => hh hq1)]
  obtain ⟨F11, k1, k2, k3⟩ := hst
  have hwd := write_dim d 1 (zeroB d.size.toNat)
  have hFd : ∀ j, w.heap.size ≤ j → ¬ Fd j := fun j hj hf => by have := hFlt j hf; omega
  have he78 : Ext w7 w10 := he8.trans he810
  have he4s := he4.size
  have he46s := he46.size
  have hw6 := he6'.size
  have hb11 := (hb7.ext he78).only k3 (hFd r4 (by omega))
  have hc11 := (hc7.ext he78).only k3 (hFd cb (by omega)) (hFd cr (by omega))
  have hArow : ∀ a, A = some a → w6.heap.size ≤ a.block := fun a ha => ho7.row _ (by rw [ha]; rfl)
  have hArow2 : ∀ a, A = some a → a.block < w7.heap.size := fun a ha => ho7.row_lt _ (by rw [ha]; rfl)
  have hp11 : Pg w11 (A, fmtN d.size N, c) (fmtS d.size N).pages := ⟨(hpg7.sl.ext he78).only k3 (fun a ha => hFd _ (by have := hArow a ha; omega)), hpg7.nc⟩
  have h710 : w7.heap.size ≤ w10.heap.size := he78.size
  have o11 : Only Fd w w11 := Only.trans (Only.of_ext he10') k3 (fun j hj => .inl hj)
  have hF11w : ∀ k, F11 k → Fd k ∨ w.heap.size ≤ k := fun k hk => by
    rcases k2 k hk with e | e
    · exact .inl e
    · exact .inr (Nat.le_trans he10'.size e)
  have hF11 : ∀ j, w.heap.size ≤ j → j < w10.heap.size → ¬ F11 j := fun j h1 h2 hf => by
    rcases k2 j hf with e | e
    · exact hFd j h1 e
    · omega
  refine boxA (ls := sLs) (sT (fmtS d.size N) (A, fmtN d.size N, c)) hb11 rfl ?_
  have hfl := fmtC_length (N := N) (np := fmtN d.size N) hnp1
  refine callW_of (commit_calls k1 (c := fmtC N (fmtN d.size N)) (by rw [hwd.1]; exact hc11) hff hp11 (fun a ha => hF11 _ (by have := hArow a ha; omega) (by have := hArow2 a ha; omega)) (by rw [hwd.1, hfl]; exact fmtP_length _) (by omega) 0) ?_
  rintro _ w12 ⟨rfl, hst⟩
  refine ⟨_, rfl, ?_⟩
  refine splitW_i (fun hq => ?_) (fun hq => ?_)
  · have hq := bne_iff_ne.1 hq
    exact .inl ⟨hq, rfl, Step.pre o11 hF11w hst⟩
  have hq2 := bne_eq_false_iff_eq.1 hq
  obtain ⟨F12, m1, m2, m3⟩ := hst
  have hF12 : ∀ j, w.heap.size ≤ j → j < w10.heap.size → ¬ F12 j := fun j h1 h2 hf => by
    rcases m2 j hf with e | e
    · exact hF11 j h1 h2 e
    · have := k3.2.2.2.1; omega
  have hF12w : ∀ k, F12 k → Fd k ∨ w.heap.size ≤ k := fun k hk => by
    rcases m2 k hk with e | e
    · exact hF11w k e
    · exact .inr (Nat.le_trans o11.2.2.2.1 e)
  have h4r : r4 < w10.heap.size := by omega
  have hb12 := hb11.only m3 (hF11 r4 (by omega) (by omega))
  have hc12 := hc11.only m3 (hF11 cb (by omega) (by omega)) (hF11 cr (by omega) (by omega))
  have hp12 : Pg w12 (A, fmtN d.size N, c) (fmtS d.size N).pages := ⟨hp11.sl.only m3 (fun a ha => hF11 _ (by have := hArow a ha; omega) (by have := hArow2 a ha; omega)), hp11.nc⟩
  have o12 : Only Fd w w12 := Only.trans o11 m3 hF11w
  refine draw_i fun w13 he13 hs13 _ => ?_
  refine boxA (ls := sLs) (sT (fmtS d.size N) (A, fmtN d.size N, c)) (hb12.ext he13) rfl ?_
  refine callW_of (cntclone_calls (hc12.ext he13)) ?_
  rintro _ w14 ⟨⟨b2, r2, q2, rfl, hc14, hb2, hr2⟩, he14⟩
  refine ⟨some ⟨b2, 0, none⟩, rfl, ?_⟩
  have he1314 := he13.trans he14
  have hb14 := hb12.ext he1314
  refine ⟨fun l hl p hp => ?_, ?_⟩
  · simp only [List.mem_singleton] at hl
    subst hl
    simp only [List.mem_cons, List.not_mem_nil, or_false] at hp
    rcases hp with rfl | rfl | rfl | rfl | rfl
    · exact (hb14.cell 0).trans rfl
    · exact (hb14.cell 1).trans rfl
    · exact (hb14.cell 2).trans rfl
    · exact (hb14.cell 3).trans rfl
    · exact (hb14.cell 4).trans rfl
  refine new_i fun r23 w15 hb15 he15 hr15 hz15 => ?_
  have hx15 := he1314.trans he15
  have o15 : Only Fd w w15 := Only.trans o12 (Only.of_ext (F := Fd) hx15) (fun j hj => .inl hj)
  have hcD := hc14.head.lt
  have hcD2 := hc14.row.lt
  have hm1lt := m1.lt
  have h1012 : w10.heap.size ≤ w12.heap.size := Nat.le_trans k3.2.2.2.1 m3.2.2.2.1
  have hs14 := he14.size
  have hne := hc2.ne
  have hne2 := hc14.ne
  have es : (commitD (d.write 1 (zeroB d.size.toNat)).1 (fmtC N (fmtN d.size N)) (fmtS d.size N) 0).1.size = d.size ∧ (commitD (d.write 1 (zeroB d.size.toNat)).1 (fmtC N (fmtN d.size N)) (fmtS d.size N) 0).1.blocks = d.blocks := by
    have := commitD_dim (d.write 1 (zeroB d.size.toNat)).1 (fmtC N (fmtN d.size N)) (fmtS d.size N) 0
    exact ⟨this.1.trans hwd.1, this.2.trans hwd.2.1⟩
  have eF : formatS d = ⟨(commitD (d.write 1 (zeroB d.size.toNat)).1 (fmtC N (fmtN d.size N)) (fmtS d.size N) 0).1, fmtS d.size N, 0, fmtC N (fmtN d.size N), fmtC N (fmtN d.size N), none⟩ := by
    unfold formatS formatD
    rw [hNt, if_neg (fun hh => hh hq0), if_neg (fun hh => hh hq1)]
  refine .inr ⟨hq2, r23, fun k => F12 k ∨ k ∈ spOwn r23 cb cr b2 r2 (A, fmtN d.size N, c) none, rfl, ?_, by omega, ?_, o15⟩
  · rw [eF]
    have hA2 : ∀ k, k ∈ rowL (A, fmtN d.size N, c) → w6.heap.size ≤ k ∧ k < w7.heap.size := by
      intro k hk
      unfold rowL at hk
      cases A with
      | none => simp at hk
      | some a =>
        simp only [Option.map_some, Option.toList_some, List.mem_singleton] at hk
        subst hk
        exact ⟨hArow a rfl, hArow2 a rfl⟩
    have hrn : (rowL (A, fmtN d.size N, c)).Nodup := by
      unfold rowL
      cases A <;> simp
    refine ⟨F12, (A, fmtN d.size N, c), cb, cr, b2, r2, none, ⟨⟨_, by exact hb15⟩, m1.ext hx15, hp12.ext hx15, ⟨[], hc12.ext hx15⟩, ⟨q2, hc14.ext he15⟩, trivial, fun _ => Iff.rfl, ?_, ?_, ?_, ⟨es.1.symm, ?_, hff, ?_, ?_, fun l hl => by cases hl⟩⟩⟩
    · simp only [spOwn, mkBl, List.append_nil, List.nodup_cons, List.mem_cons, not_or]
      refine ⟨⟨by omega, by omega, by omega, by omega, fun hk => by have := hA2 _ hk; omega⟩, ⟨hne, by omega, by omega, fun hk => by have := hA2 _ hk; omega⟩, ⟨by omega, by omega, fun hk => by have := hA2 _ hk; omega⟩, ⟨hne2, fun hk => by have := hA2 _ hk; omega⟩, fun hk => by have := hA2 _ hk; omega, hrn⟩
    · intro k hk hf
      have hkl := hm1lt k hf
      simp only [spOwn, mkBl, List.append_nil, List.mem_cons] at hk
      rcases hk with rfl | rfl | rfl | rfl | rfl | hk
      · omega
      · exact hF12 _ (by omega) (by omega) hf
      · exact hF12 _ (by omega) (by omega) hf
      · omega
      · omega
      · have := hA2 k hk
        exact hF12 _ (by omega) (by omega) hf
    · intro k hk
      have := hA2 k hk
      have := hx15.size
      omega
    · show (N : Int) = _
      rw [es.2, hN]
    · show (fmtC N (fmtN d.size N)).length = ((N : Int)).toNat
      rw [hfl]; omega
    · show (fmtC N (fmtN d.size N)).length = ((N : Int)).toNat
      rw [hfl]; omega
  · rintro k (hk | hk)
    · exact hF12w k hk
    · right
      simp only [spOwn, mkBl, List.append_nil, List.mem_cons] at hk
      rcases hk with rfl | rfl | rfl | rfl | rfl | hk
      · omega
      · omega
      · omega
      · omega
      · omega
      · unfold rowL at hk
        cases A with
        | none => simp at hk
        | some a =>
          simp only [Option.map_some, Option.toList_some, List.mem_singleton] at hk
          subst hk
          have := hArow a rfl
          omega
end Go.Proofs.YtjdmggaeagnolaaGreatDoor.V
/- Ranges over functions that make new blocks, and change their own, between what they yield. -/
namespace Go.Proofs.YtjdmggaeagnolaaGreatDoor.V
open Go
theorem Only.mono {F G : Nat → Prop} {w w' : World} (h : Only F w w') (hF : ∀ k, F k → G k) : Only G w w' := ⟨h.1, h.2.1, h.2.2.1, h.2.2.2.1, fun k hk hg => h.2.2.2.2 k hk (fun e => hg (hF k e))⟩
end Go.Proofs.YtjdmggaeagnolaaGreatDoor.V
/- Contracts of the package space: refs. -/
namespace Go.Proofs.YtjdmggaeagnolaaGreatDoor.V
open Go Go.Proofs Go.RowKit Crc
end Go.Proofs.YtjdmggaeagnolaaGreatDoor.V
/- Contracts of the package space: Walk, Audit. -/
namespace Go.Proofs.YtjdmggaeagnolaaGreatDoor.V
open Go Go.Proofs Go.RowKit Crc
variable {w w' : World} {b db : Nat} {S : Spa} {F Fd : Nat → Prop} {x : SLC} {hb hr nb nr : Nat} {m : MkL}
end Go.Proofs.YtjdmggaeagnolaaGreatDoor.V
/- Contracts of the package space: Audit. -/
namespace Go.Proofs.YtjdmggaeagnolaaGreatDoor.V
open Go Go.Proofs Go.RowKit Crc
variable {w w' : World} {b db : Nat} {S : Spa} {F Fd : Nat → Prop} {x : SLC} {hb hr nb nr : Nat} {m : MkL}
end Go.Proofs.YtjdmggaeagnolaaGreatDoor.V
/- Spaces that are well: what Put, Get, Drop, Audit come to. -/
namespace Go.Proofs.YtjdmggaeagnolaaGreatDoor.V
open Go Go.Proofs Go.RowKit Crc
structure Good (S : Spa) (R : List Nat) : Prop where
  ok : S.Ok
  dev : S.dev.Ok
  fuse : S.dev.fuse = -1
  gen : S.sup.gen < 1000000000000
  well : WellC S.N S.sup.pages S.page S.now R
theorem Good.dims {S : Spa} {R : List Nat} (h : Good S R) : SpDims S := by
  have hg := h.dev.geo
  rw [← h.ok.size, ← h.ok.blocks] at hg
  obtain ⟨g1, g2, g3, g4, g5⟩ := geo_room hg
  have : S.sup.blocks = (S.N : Int) := by unfold Spa.N; omega
  exact ⟨hg, g1, ⟨g2, g3⟩, this, by omega⟩
theorem Good.h01 {S : Spa} {R : List Nat} (h : Good S R) : S.now.getD 0 0 ≠ 0 ∧ S.now.getD 1 0 ≠ 0 := by
  have := h.well.head
  omega
theorem Good.perm {S : Spa} {R R' : List Nat} (h : Good S R) (hp : R.Perm R') : Good S R' := ⟨h.ok, h.dev, h.fuse, h.gen, h.well.perm hp⟩
theorem used_asked {S : Spa} {R : List Nat} (h : Good S R) {n : Nat} (hn : usedC S.sup.pages S.now n = true) : S.asked n = true ∧ S.now.getD n 0 ≠ 0 ∧ n < S.N := by
  obtain ⟨h1, h2, h3⟩ := usedC_iff.1 hn
  have := h.well.lt hn
  exact ⟨asked_iff.2 ⟨h1, this, h2⟩, by omega, this⟩
theorem Good.get {S : Spa} {R : List Nat} (h : Good S R) {n : Nat} (hn : usedC S.sup.pages S.now n = true) : S.get n = S.page n ∧ (S.page n).2 = 0 := by
  obtain ⟨h1, h2, h3⟩ := used_asked h hn
  refine ⟨?_, (h.well.good n hn).1⟩
  unfold Spa.get
  rw [if_neg (by rw [h1]; simp), if_neg h2]
theorem read_write {d : Dev} (h : d.Ok) {k j : Int} {s : ByteArray} (hk : 0 ≤ k ∧ k < d.blocks) (hs : (s.size : Int) = d.size) (hf : d.fuse ≠ 0) (hj : 0 ≤ j ∧ j < d.blocks) :
    (d.write k s).2 = 0 ∧ ((d.write k s).1.read j).1 = if j = k then s else (d.read j).1 := by
  unfold Dev.write
  rw [if_neg (by rintro (e | e); exact e hk; exact e hs), if_neg hf]
  refine ⟨rfl, ?_⟩
  unfold Dev.read
  dsimp only
  rw [if_neg (show ¬ ¬ (0 ≤ j ∧ j < d.burnt.blocks) from fun e => e hj), if_neg (show ¬ ¬ (0 ≤ j ∧ j < d.blocks) from fun e => e hj)]
  dsimp only
  rw [List.foldl_append]
  show ((List.foldl Go.Proofs.YtjdmggaeagnolaaGreatDoor.V.put d.dur d.pen).set k.toNat s).getD j.toNat ByteArray.empty = _
  rw [getD_set]
  have hl := puts_len d.pen d.dur
  have hlen := h.len
  by_cases e : j = k
  · subst e
    rw [if_pos ⟨rfl, by rw [hl]; omega⟩, if_pos rfl]
  · rw [if_neg (fun e' => e (by omega)), if_neg e]
theorem write_ok {d : Dev} (h : d.Ok) {k : Int} {s : ByteArray} (hk : 0 ≤ k ∧ k < d.blocks) (hs : (s.size : Int) = d.size) (hf : d.fuse = -1) : (d.write k s).1.Ok ∧ (d.write k s).1.fuse = -1 ∧ (d.write k s).1.pen.length = d.pen.length + 1 := by
  unfold Dev.write
  rw [if_neg (by rintro (e | e); exact e hk; exact e hs), if_neg (by omega)]
  have hb := h.burnt
  refine ⟨⟨h.geo, h.len, h.each, fun p hp => ?_, hb.fuse⟩, ?_, by simp⟩
  · rcases List.mem_append.1 hp with hp | hp
    · exact h.pend p hp
    · rw [List.mem_singleton.1 hp]; exact ⟨hk.1, hk.2, hs⟩
  · show max (-1) (d.fuse - 1) = -1
    rw [hf]; decide
theorem preF_zero (S : Spa) : ∀ n, (∀ j, j < n → ¬ ((decide (2 ≤ j) && S.isFree j) = true)) → preF S n = []
  | 0, _ => rfl
  | n + 1, h => by
    rw [preF_succ, if_neg (h n (by omega)), preF_zero S n (fun j hj => h j (by omega))]
theorem freeL_mem {S : Spa} {n : Nat} : n ∈ S.freeL ↔ n < S.N ∧ 2 ≤ n ∧ S.isFree n = true := by
  unfold Spa.freeL
  rw [List.mem_filter, List.mem_range, Bool.and_eq_true, decide_eq_true_iff]
theorem takeI_free {S : Spa} {R : List Nat} (h : Good S R) (hf : 0 < S.freeN) : S.takeI < S.N ∧ 2 ≤ S.takeI ∧ S.isFree S.takeI = true ∧ (∀ j, j < S.takeI → S.isFree j = false) ∧ S.takeI ∉ S.sup.pages := by
  have hnow := h.ok.now
  obtain ⟨n, hn⟩ : ∃ n, n ∈ S.freeL := by
    unfold Spa.freeN at hf
    cases hq : S.freeL with
    | nil => rw [hq] at hf; simp at hf
    | cons a r => exact ⟨a, List.mem_cons_self⟩
  obtain ⟨h1, h2, h3⟩ := freeL_mem.1 hn
  have hlt : S.takeI < (List.range S.now.length).length := List.findIdx_lt_length_of_exists ⟨n, List.mem_range.2 (by omega), h3⟩
  rw [List.length_range] at hlt
  have hfr : S.isFree S.takeI = true := by
    have := List.findIdx_getElem (p := S.isFree) (xs := List.range S.now.length) (w := by rw [List.length_range]; exact hlt)
    rw [List.getElem_range] at this
    exact this
  obtain ⟨f1, f2, f3⟩ := isFree_iff.1 hfr
  have hhd := h.well.head
  refine ⟨by omega, ?_, hfr, fun j hj => ?_, fun hp => ?_⟩
  · rcases Nat.lt_or_ge S.takeI 2 with hh | hh
    · have : S.takeI = 0 ∨ S.takeI = 1 := by omega
      rcases this with e | e <;> rw [e] at f1 <;> omega
    · exact hh
  · have := List.not_of_lt_findIdx (p := S.isFree) (xs := List.range S.now.length) (i := j) hj
    rw [List.getElem_range] at this
    simpa using this
  · have := (h.well.pgs _ hp).2.2
    omega
structure PutOk (S S' : Spa) (p : Page) (n : Nat) : Prop where
  two : 2 ≤ n
  lt : n < S.N
  pgs : n ∉ S.sup.pages
  free : S.isFree n = true
  now : S'.now = S.now.set n 1
  sup : S'.sup = S.sup
  held : S'.held = S.held
  mark : S'.mark = S.mark
  slot : S'.slot = S.slot
  page : S'.page n = (p, 0)
  other : ∀ k, k ≠ n → k < S.N → S'.page k = S.page k
  pen : S'.dev.pen.length = S.dev.pen.length + 1
  freeL : S.freeL = n :: S'.freeL
  read : ∀ k : Int, 0 ≤ k → k < S.N → k ≠ n → (S'.dev.read k).1 = (S.dev.read k).1
  dim : S'.dev.size = S.dev.size ∧ S'.dev.blocks = S.dev.blocks
theorem freeL_take {S S' : Spa} {n : Nat} (hn : n < S.N) (h2 : 2 ≤ n) (hf : S.isFree n = true) (hno : ∀ j, j < n → S.isFree j = false) (hN : S'.N = S.N) (hf' : ∀ j, j < S.N → S'.isFree j = if j = n then false else S.isFree j) : S.freeL = n :: S'.freeL := by
  have key : ∀ k, k ≤ S.N → preF S k = if n < k then n :: preF S' k else preF S' k := by
    intro k
    induction k with
    | zero => intro _; rw [if_neg (by omega)]; rfl
    | succ k ih =>
      intro hk
      have ih := ih (by omega)
      rw [preF_succ, preF_succ, hf' k (by omega)]
      by_cases hkn : k = n
      · subst hkn
        have hA : (decide (2 ≤ k) && S.isFree k) = true := by rw [hf, decide_eq_true h2]; rfl
        have e1 : preF S k = [] := preF_zero S k (fun j hj hh => by rw [hno j hj] at hh; simp at hh)
        rw [if_neg (by omega)] at ih
        rw [if_pos hA, if_pos (Nat.lt_succ_self k), if_pos rfl, Bool.and_false, if_neg (by simp), ← ih, e1]
        rfl
      · rw [if_neg hkn]
        by_cases hlt : n < k
        · rw [if_pos hlt] at ih
          rw [if_pos (by omega : n < k + 1), ih]
          split <;> simp
        · rw [if_neg hlt] at ih
          rw [if_neg (by omega : ¬ n < k + 1), ih]
  have h1 := key S.N (Nat.le_refl _)
  rw [if_pos hn] at h1
  have e2 : preF S' S.N = S'.freeL := by unfold preF Spa.freeL; rw [hN]
  rw [e2] at h1
  exact h1
theorem put_good {S : Spa} {R : List Nat} {p : Page} (h : Good S (p.2.1 ++ R)) (ht : 3 ≤ p.1.toNat) (hk : (p.2.1.length : Int) ≤ S.room 0 / 4) (hd : (p.2.2.size : Int) ≤ S.room p.2.1.length) (hfree : S.sup.pages.length < S.freeN) :
    (S.put p).2.2 = 0 ∧ PutOk S (S.put p).1 p (S.put p).2.1 ∧ Good (S.put p).1 ((S.put p).2.1 :: R) := by
  have hdim := h.dims
  have hN := hdim.n
  have hsz := hdim.size
  have hroom := hdim.room
  have hr0 : S.room 0 = S.sup.size - 18 := by unfold Spa.room; rw [hroom, if_neg (by omega)]; omega
  have hrk : S.room p.2.1.length = S.sup.size - 18 - 4 * p.2.1.length := by unfold Spa.room; rw [hroom, if_neg (by omega)]; omega
  obtain ⟨t1, t2, t3, t4, t5⟩ := takeI_free h (by omega)
  obtain ⟨f1, f2, f3⟩ := isFree_iff.1 t3
  have hnow := h.ok.now
  have eN : S.takeN = S.takeI := by unfold Spa.takeN; rw [if_pos (by omega)]
  have eE : S.takeE = 0 := by unfold Spa.takeE; rw [if_pos (by omega)]
  have eL : S.takeL = S.now.set S.takeI 1 := by unfold Spa.takeL; rw [if_pos (by omega)]
  have hku : ∀ k ∈ p.2.1, usedC S.sup.pages S.now k = true := fun k hk => h.well.root k (List.mem_append_left _ hk)
  have hE0 : S.putE p = 0 := by
    unfold Spa.putE
    rw [if_neg, if_neg, if_neg, if_neg]
    · omega
    · rintro (e | e) <;> omega
    · rintro ⟨k, hk, e⟩
      exact (used_asked h (hku k hk)).2.1 e
    · rintro (e | e | ⟨k, hk, e⟩)
      · omega
      · omega
      · rw [(used_asked h (hku k hk)).1] at e; cases e
  have hpl : (pgB p).length = 2 + (4 * p.2.1.length + p.2.2.size) := by simp [pgB, le_length, wordsB_length, B_size]
  have hdz := h.ok.size
  have hdb := h.ok.blocks
  have hbl := hdim.blocks
  obtain ⟨z, hz⟩ : ∃ z : Nat, S.sup.size = (z : Int) := ⟨S.sup.size.toNat, by omega⟩
  have hfit : (pgB p).length + 16 ≤ z := by omega
  have hBp : (B (mkB (pgB p))).length = (pgB p).length := by rw [B_mkB]
  have hputR : putR S.dev.size (S.frame p) = (putB z (S.frame p), 0) := by
    unfold putR
    rw [← hdz, if_neg (by rw [hroom]; omega)]
    rw [if_neg (by show ¬ (((B (mkB (pgB p))).length : Int) > _); rw [hBp, hroom]; omega), hz]
    rfl
  have hbl2 : (putB z (S.frame p)).length = z := putB_length (by show (B (mkB (pgB p))).length + 16 ≤ z; rw [hBp]; exact hfit)
  have hws : (((mkB (putB z (S.frame p))).size : Nat) : Int) = S.dev.size := by rw [mkB_size, hbl2, ← hz, hdz]
  have hwf : writeF S.dev S.takeI (S.frame p) = S.dev.write S.takeI (mkB (putB z (S.frame p))) := by
    unfold writeF
    rw [hputR, if_neg (by simp)]
  have hk2 : 0 ≤ (S.takeI : Int) ∧ (S.takeI : Int) < S.dev.blocks := by omega
  have hfz := h.fuse
  obtain ⟨q1, q2, q3⟩ := write_ok h.dev hk2 hws hfz
  have hwe : (S.dev.write S.takeI (mkB (putB z (S.frame p)))).2 = 0 := (read_write h.dev hk2 hws (by omega) hk2).1
  have eput : S.put p = ({ S with now := S.now.set S.takeI 1, dev := (S.dev.write S.takeI (mkB (putB z (S.frame p)))).1 }, S.takeI, 0) := by
    unfold Spa.put
    rw [if_neg (by rw [hE0]; simp), if_neg (by rw [eE]; simp), eN, eL, hwf, if_neg (by rw [hwe]; simp)]
  rw [eput]
  dsimp only
  have hpg : ∀ k, k < S.N → Spa.page { S with now := S.now.set S.takeI 1, dev := (S.dev.write S.takeI (mkB (putB z (S.frame p)))).1 } k = if k = S.takeI then (p, 0) else S.page k := by
    intro k hkN
    unfold Spa.page
    dsimp only
    have hrw := (read_write h.dev hk2 hws (by omega) (j := (k : Int)) (by omega)).2
    show pageR S.N (B ((S.dev.write S.takeI (mkB (putB z (S.frame p)))).1.read k).1) = _
    rw [hrw]
    by_cases e : k = S.takeI
    · subst e
      rw [if_pos rfl, if_pos rfl, B_mkB]
      have hg := h.gen
      refine pageR_putB (by rw [← hz]; exact hroom) (by omega) (by omega) hfit (by omega) ht (fun n hn => ?_) hN.2
      obtain ⟨a1, a2, a3⟩ := usedC_iff.1 (hku n hn)
      exact ⟨a1, h.well.lt (hku n hn)⟩
    · rw [if_neg (by omega), if_neg e]
  have hdim2 := write_dim S.dev S.takeI (mkB (putB z (S.frame p)))
  have hwell : WellC S.N S.sup.pages (Spa.page { S with now := S.now.set S.takeI 1, dev := (S.dev.write S.takeI (mkB (putB z (S.frame p)))).1 }) (S.now.set S.takeI 1) (S.takeI :: R) := by
    refine WellC.put (ks := p.2.1) h.well t2 t1 t5 f1 ?_ ?_ (fun k hk hkN => ?_)
    · rw [hpg _ t1, if_pos rfl]
    · unfold kidsP; rw [hpg _ t1, if_pos rfl]
    · rw [hpg k hkN, if_neg hk]
  refine ⟨rfl, ⟨t2, t1, t5, t3, rfl, rfl, rfl, rfl, rfl, by rw [hpg _ t1, if_pos rfl], fun k hk hkN => by rw [hpg k hkN, if_neg hk], q3, ?_, fun k h0 hkN hne => by
    show ((S.dev.write S.takeI (mkB (putB z (S.frame p)))).1.read k).1 = _
    rw [(read_write h.dev hk2 hws (by omega) (j := k) (by omega)).2, if_neg hne], ⟨hdim2.1, hdim2.2.1⟩⟩, ⟨⟨?_, ?_, h.ok.fits, h.ok.held, ?_, h.ok.mark⟩, q1, q2, h.gen, hwell⟩⟩
  · refine freeL_take t1 t2 t3 t4 rfl (fun j hj => ?_)
    rw [Bool.eq_iff_iff, isFree_iff]
    dsimp only
    rw [getD_setN]
    by_cases e : j = S.takeI
    · subst e
      rw [if_pos ⟨rfl, by omega⟩, if_pos rfl]
      simp
    · rw [if_neg (fun e' => e e'.1.symm), if_neg e, isFree_iff]
  · exact hdz.trans hdim2.1.symm
  · exact hdb.trans hdim2.2.1.symm
  · show (S.now.set S.takeI 1).length = _
    rw [List.length_set]
    exact hnow
end Go.Proofs.YtjdmggaeagnolaaGreatDoor.V
