/- Contracts of counts.Load, and of the reference's New, Pages, Load. -/
import Derived.Test.YtmogbadaoaikcaaKCounts3
set_option linter.unusedVariables false
set_option linter.unusedSimpArgs false
namespace Go.Proofs.Ytmogbadaoaikcaa.V
open Go Go.Proofs Go.RowKit

theorem pagesL_sizes (l : List Nat) (per : Nat) : fitsP l.length per (pagesL l per) := by
  unfold fitsP sizes pagesL
  rw [List.map_map]
  apply List.map_congr_left
  intro i _
  simp only [Function.comp]
  rw [B_size, B_mk]
  unfold pageB
  rw [flat2_length]
  simp
theorem pages_load {n per : Nat} {ps : List ByteArray} (hp : 1 ≤ per) (h : fitsP n per ps) : pagesL (loadL ps) per = ps := pages_back hp h
def loadE (size blocks : Int) (ps : List ByteArray) : Int :=
  if geoOK size blocks = false then 2 else if ¬ fitsP blocks.toNat (perOf size) ps then 4 else if (loadL ps).getD 0 0 = 1 ∧ (loadL ps).getD 1 0 = 1 then 0 else 4
theorem newL_length {n : Nat} (h : 2 ≤ n) : (newL n).length = n := by simp [newL]; omega
theorem fits_new {n per : Nat} {ps : List ByteArray} (h : 2 ≤ n) : sizes ps = sizes (pagesL (newL n) per) ↔ fitsP n per ps := by
  have := pagesL_sizes (newL n) per
  rw [newL_length h] at this
  unfold fitsP at this ⊢
  rw [this]
theorem spages_geo {size : Int} {n : Nat} (h : geoOK size n = true) : spages size n = ((cutsN n (perOf size) : Nat) : Int) := by
  unfold spages
  rw [if_pos h, Int.toNat_natCast]
/-- A row of counts, partly read. -/
theorem Cnt.merge {w : World} {b r m : Nat} {size : Int} {ps : List ByteArray} {N : List Nat} (h : Cnt w b r size [] (merge (loadL ps) N m)) (hl : (loadL ps).length = N.length) (hm : m < N.length) :
    Cnt (w.setCell ⟨r, m, none⟩ (.int .u16 ((loadL ps).getD m 0 : Int))) b r size [] (merge (loadL ps) N (m + 1)) ∧ w.grownBy (w.setCell ⟨r, m, none⟩ (.int .u16 ((loadL ps).getD m 0 : Int))) (some r) := by
  have hlt : (loadL ps).getD m 0 < 65536 := by
    rw [List.getD_eq_getElem?_getD, List.getElem?_eq_getElem (by omega)]
    exact loadL_lt ps _ (List.getElem_mem _)
  have := h.set (i := m) (by rw [merge_length hl]; exact hm) hlt
  rw [merge_set hm (by omega)] at this
  exact this
theorem load_calls {w : World} {size blocks : Int} {A : Option Addr} {np c : Nat} {ps : List ByteArray} (hp : Sli strE w A np ps) :
    Calls Try.prog 21 #[.agg #[.int .i64 size, .int .i64 blocks], .slice A np c] w (Ret fun v w' => ∃ x : Option Addr, v = .tuple #[.pointer x, .int .i64 (loadE size blocks ps)] ∧ (if loadE size blocks ps = 0 then ∃ b r, x = some ⟨b, 0, none⟩ ∧ Cnt w' b r size [] (loadL ps) ∧ w.heap.size ≤ b ∧ w.heap.size ≤ r else x = none) ∧ Ext w w') := by
  apply calls21
  unfold S21
  have hpl := hp.len
  have hple := hp.2.1
  apply newW_i
  have hb : Blk (w.alloc (.cells #[(.int .i64 size), (.int .i64 blocks)] 23)) w.heap.size [(.int .i64 size), (.int .i64 blocks)] 23 := Blk.new w _ _
  have he : Ext w (w.alloc (.cells #[(.int .i64 size), (.int .i64 blocks)] 23)) := (Ext.refl w).alloc _
  generalize w.alloc (.cells #[(.int .i64 size), (.int .i64 blocks)] 23) = w1 at hb he ⊢
  generalize hgb : w.heap.size = gb at hb ⊢
  refine ldA_blk (ls := [(.int .i64), (.int .i64)]) (x := (size, blocks, ())) hb rfl ?_
  refine callW_of (new_calls w1 size blocks) ?_
  rintro _ w2 ⟨x, rfl, hx, he2⟩
  refine ⟨(x, (if geoOK size blocks then 0 else 2), ()), rfl, ?_⟩
  have he02 := he.trans he2
  have hb2 := hb.ext he2
  apply newW_i
  have hr4 := Blk.new w2 #[.pointer none] 26
  have he3 := he02.alloc (.cells #[.pointer none] 26)
  have h23 := (Ext.refl w2).alloc (.cells #[.pointer none] 26)
  generalize w2.alloc (.cells #[.pointer none] 26) = w3 at hr4 he3 h23 ⊢
  have hs2 := he02.size
  have hs2' := he2.size
  have hs1 := hb.lt
  generalize hr4e : w2.heap.size = r4 at hr4 hs2 hs2' ⊢
  refine stW_blk hr4 (by simp) ?_
  have hr4 := hr4.set 0 (.pointer x)
  have hb3 := (hb2.ext h23).other (p := ⟨r4, 0, none⟩) (by simp only; omega) (.pointer x)
  have he4 := he3.set (p := ⟨r4, 0, none⟩) (by simp only; omega) (.pointer x)
  have h24 := h23.set (p := ⟨r4, 0, none⟩) (by simp only; omega) (.pointer x)
  generalize w3.setCell ⟨r4, 0, none⟩ (.pointer x) = w4 at hr4 hb3 he4 h24 ⊢
  dsimp only
  cases hok : geoOK size blocks with
  | false =>
    have e : loadE size blocks ps = 2 := by unfold loadE; rw [if_pos hok]
    rw [if_neg (by simp)]
    refine splitW_t (by rfl) ⟨none, by rw [e], by rw [e, if_neg (by omega)], he4⟩
  | true =>
  rw [if_pos rfl]
  refine splitW_f (by rfl) ?_
  rw [hok, if_pos rfl] at hx
  obtain ⟨b, r, rfl, hc, hbw, hrw⟩ := hx
  obtain ⟨h8, n, rfl, hn1, hn2⟩ := geo8 hok
  rw [Int.toNat_natCast] at hc
  have hbr4 : b < r4 := by have := hc.head.lt; omega
  have hrr4 : r < r4 := by have := hc.row.lt; omega
  have hc := hc.ext h24
  have hb0 : w.heap.size ≤ b := by have := he.size; omega
  have hr0 : w.heap.size ≤ r := by have := he.size; omega
  have hE : ∀ z, loadE size n ps = z ↔ (if ¬ fitsP n (perOf size) ps then 4 else if (loadL ps).getD 0 0 = 1 ∧ (loadL ps).getD 1 0 = 1 then 0 else 4) = z := fun z => by
    unfold loadE
    rw [if_neg (by rw [hok]; simp), Int.toNat_natCast]
  refine ldA_blk (ls := [(.int .i64), (.int .i64)]) (x := (size, (n : Int), ())) hb3 rfl ?_
  refine callW_of (spages_calls w4 size n) ?_
  rintro _ w5 ⟨rfl, he5⟩
  refine ⟨_, rfl, ?_⟩
  have he05 := he4.trans he5
  rw [spages_geo hok]
  obtain ⟨hp1, hp2, _⟩ := perOf_spec h8
  refine splitW_i (fun hne => ?_) (fun heq => ?_)
  · have hne := bne_iff_ne.1 hne
    have e : loadE size n ps = 4 := by
      rw [hE, if_pos]
      intro hf
      have := fitsP_len hf
      omega
    exact ⟨none, by rw [e], by rw [e, if_neg (by omega)], he05⟩
  refine ldW_blk (x := some ⟨b, 0, none⟩) (hr4.ext he5) (by rfl) ?_
  refine callW_of (pages_calls (hc.ext he5) h8) ?_
  rintro _ w6 ⟨⟨A2, n2, c2⟩, rfl, ho, he6⟩
  refine ⟨(A2, n2, c2), rfl, ?_⟩
  dsimp only at ho ⊢
  have he06 := he05.trans he6
  refine callW_of (eqfunc_calls (c := c) (c2 := c2) (hp.ext he06) ho.sl) ?_
  rintro _ w6 ⟨rfl, hw⟩
  subst hw
  refine ⟨_, rfl, ?_⟩
  have hper : ∃ per, per = perOf size := ⟨_, rfl⟩
  obtain ⟨per, hper⟩ := hper
  rw [← hper] at hp1 hp2 hE ⊢
  rw [show decide (sizes ps = sizes (pagesL (newL n) per)) = decide (fitsP n per ps) from decide_eq_decide.2 (fits_new (by omega))]
  by_cases hf : fitsP n per ps
  rotate_left
  · have e : loadE size n ps = 4 := by rw [hE, if_pos hf]
    rw [decide_eq_false hf]
    exact splitW_t (by rfl) ⟨none, by rw [e], by rw [e, if_neg (by omega)], he06⟩
  rw [decide_eq_true hf]
  refine splitW_f (by rfl) ?_
  have hDl := loadL_length (by omega) hf
  have hNl := newL_length (n := n) (by omega)
  have hbe := hb3.ext (he5.trans he6)
  have hr46 := hr4.ext (he5.trans he6)
  have hc6 := (hc.ext he5).ext he6
  clear hb hb2 hb3 hr4 hc ho he5 he6 h24 h23 he2 he02 he3 he4 he he05 hbe
  apply newW_i
  have hr10 := Blk.new w6 #[.int .i64 0] 3
  have he7 := he06.alloc (.cells #[.int .i64 0] 3)
  have h67 := (Ext.refl w6).alloc (.cells #[.int .i64 0] 3)
  have hr47 := hr46.alloc (.cells #[.int .i64 0] 3)
  have hc7 := hc6.ext h67
  have hs6 := he06.size
  have hr4lt := hr46.lt
  have hclt := hc6.head.lt
  have hrlt := hc6.row.lt
  generalize w6.alloc (.cells #[.int .i64 0] 3) = w7 at hr10 he7 hr47 hc7 ⊢
  generalize hr10e : w6.heap.size = r10 at hr10 hs6 hr4lt hclt hrlt ⊢
  refine stW_blk hr10 (by simp) ?_
  have hr10 := hr10.set 0 (.int .i64 0)
  have he8 := he7.set (p := ⟨r10, 0, none⟩) (by simp only; omega) (.int .i64 0)
  have hr48 := hr47.other (p := ⟨r10, 0, none⟩) (by simp only; omega) (.int .i64 0)
  have hc8 : Cnt (w7.setCell ⟨r10, 0, none⟩ (.int .i64 0)) b r size [] (newL n) := hc7.kept (k := r10) ⟨rfl, rfl, rfl, by simp, fun k hk hne => Below.heap_setCell _ _ _ _ (fun e => hne (by rw [e]))⟩ (by omega) (by omega)
  generalize w7.setCell ⟨r10, 0, none⟩ (.int .i64 0) = w8 at hr10 he8 hr48 hc8 ⊢
  -- the pages
  refine loopW_i (fun y w' => ∃ (i : Nat) (ds : List Deferred), i ≤ np ∧ y = ((i : Int), ds, ()) ∧ Ext w w' ∧ Blk w' r4 [.pointer (some ⟨b, 0, none⟩)] 26 ∧ Blk w' r10 [.int .i64 ((loadL (ps.take i)).length : Int)] 3 ∧ Cnt w' b r size [] (merge (loadL ps) (newL n) (loadL (ps.take i)).length) ∧ Dfs w.heap.size w' ds) (fun y => (np - y.1).toNat) ⟨0, [], by omega, rfl, he8, hr48, hr10, by rw [show (loadL (ps.take 0)).length = 0 by simp [loadL], merge_zero]; exact hc8, trivial⟩ ?_
  rintro _ w9 ⟨i, ds, hi, rfl, he9, hr49, hr109, hc9, hds⟩
  dsimp only
  have hat : (loadL (ps.take i)).length ≤ n := by rw [part_length hf i (by omega)]; omega
  by_cases hlt : i < np
  · refine splitW_t (decide_eq_true (by omega)) ?_
    refine idx_str (hp.ext he9) (by omega) (by omega) ?_
    rw [Int.toNat_natCast]
    have hip : i < ps.length := by omega
    have eg : ps.getD i ByteArray.empty = ps[i] := by simp [hip]
    rw [eg]
    have hsz := fitsP_size hf hip
    have hsu := part_succ hip
    have hsn : (loadL (ps.take (i + 1))).length ≤ n := by rw [part_length hf (i + 1) (by omega)]; omega
    have hgetw : ∀ k, k < (B ps[i]).length / 2 → (loadL ps).getD ((loadL (ps.take i)).length + k) 0 = lev (((B ps[i]).drop (2 * k)).take 2) := fun k hk => loadL_get hip hk
    generalize ps[i] = s at hsz hsu hgetw ⊢
    have hss := B_size s
    generalize hz : (loadL (ps.take i)).length = at0 at *
    refine conv_bytes (u := .string) (e := 5) (by kernel_rfl) (by kernel_rfl) (by kernel_rfl) (by omega) ?_
    intro cc w10 hsl he10 hs10 hcc
    refine callW_of (chunk8_calls (k := 2) (by omega) hcc (by dsimp only; omega)) ?_
    rintro v w11 ⟨hit, hRc, hs11, he11⟩
    refine ⟨v, rfl, ?_⟩
    dsimp only at hit hRc
    have he911 := he10.trans he11
    have he011 := he9.trans he911
    have hsl11 := hsl.ext he11
    have hr411 := hr49.ext he911
    have hr1011 := hr109.ext he911
    have hc11 := hc9.ext he911
    have hds11 : Dfs w.heap.size w11 ds := hds.kept fun k h1 _ => he911.heap h1
    have hs9 := he9.size
    have h4lt := hr49.lt
    have h10lt := hr109.lt
    have hblt := hc9.head.lt
    have hrlt2 := hc9.row.lt
    clear hds hsl hr49 hr109 hc9
    have hcn : (cutsV 1 (some ⟨w9.heap.size, 0, none⟩) s.size 2).length = s.size / 2 := by rw [cutsV_length]; unfold cutsN; omega
    refine range_i (R := RChunk8 w10.heap.size (w10.heap.size + 1) (some ⟨w9.heap.size, 0, none⟩) s.size cc 2) (fun k w' => Ext w w' ∧ RChunk8 w10.heap.size (w10.heap.size + 1) (some ⟨w9.heap.size, 0, none⟩) s.size cc 2 w' ∧ Sl w' (some ⟨w9.heap.size, 0, none⟩) s.size (bV (B s)) ∧ Blk w' r4 [.pointer (some ⟨b, 0, none⟩)] 26 ∧ Blk w' r10 [.int .i64 ((at0 + k : Nat) : Int)] 3 ∧ Cnt w' b r size [] (merge (loadL ps) (newL n) (at0 + k)) ∧ KeepD w11 w') hit (fun i w' hI => hI.2.1) (fun i w' hI => ⟨hI.1.drew, hI.2.1, hI.2.2.1, hI.2.2.2.1, hI.2.2.2.2.1, hI.2.2.2.2.2.1.ext (Ext.refl w').drew, hI.2.2.2.2.2.2⟩) ?_ ?_ ?_ ?_
    · rintro k w' w'' hsb ⟨e1, ⟨e2, e3⟩, e4, e5, e6, e7, e8⟩
      have hkeep : ∀ j : Nat, j < w11.heap.size → w''.heap[j]? = w'.heap[j]? := fun j hj => hsb.2.2.2.2 j (by omega) (by omega)
      refine ⟨e1.sameBut hsb (by omega) (by omega), ⟨(hkeep _ (by omega)).trans e2, (hkeep _ (by omega)).trans e3⟩, ⟨e4.1, e4.2.1, fun hn => ?_⟩, (hkeep _ (by omega)).trans e5, (hkeep _ (by omega)).trans e6, ⟨(hkeep _ (by omega)).trans e7.head, (hkeep _ (by omega)).trans e7.row, e7.ne, e7.len, e7.fits⟩, fun j hj => ?_⟩
      · obtain ⟨a, ha, hcell⟩ := e4.2.2 hn
        refine ⟨a, ha, fun j v hj => ?_⟩
        injection ha with ha
        subst ha
        have := hcell j v hj
        rw [add_mk] at this ⊢
        simp only [World.cell?] at this ⊢
        rw [hkeep _ (by omega)]
        exact this
      · have hjl : j < w11.heap.size := (Array.getElem?_eq_some_iff.1 hj).1
        rw [hkeep j hjl]
        exact e8 j hj
    · intro o
      have hx := ((Ext.refl w11).alloc (.deferred (some []))).alloc o
      exact ⟨he011.trans hx, ⟨hRc.1.ext hx, hRc.2.ext hx⟩, hsl11.ext hx, hr411.ext hx, hr1011.ext hx, hc11.ext hx, fun j hj => hx.heap hj⟩
    · rintro k hk w' N jump ⟨e1, ⟨e2, e3⟩, e4, e5, e6, e7, e8⟩ hsz' hN
      rw [hcn] at hk
      have hcut : (cutsV 1 (some ⟨w9.heap.size, 0, none⟩) s.size 2)[k]'(by rw [hcn]; exact hk) = [.slice (cutAddr (some ⟨w9.heap.size, 0, none⟩) (k * 2) (k * 2 + 2) 1) 2 2] := by
        have : min 2 (s.size - k * 2) = 2 := by omega
        simp [cutsV, this]
      refine ⟨((cutAddr (some ⟨w9.heap.size, 0, none⟩) (k * 2) (k * 2 + 2) 1, 2, 2), ()), hcut.symm, ?_⟩
      dsimp only
      have hsub := e4.cut (l := k * 2) (k := 2) (m := k * 2 + 2) (by omega) (by omega)
      rw [bV_drop, bV_take] at hsub
      have he1' : Ext w' w'.drew := (Ext.refl w').drew
      have e1 := e1.drew
      show (ldW _ _ _) w'.drew
      have e5' := e5.ext he1'
      have e6' := e6.ext he1'
      have e7' := e7.ext he1'
      have hsub := hsub.ext he1'
      generalize hwd : w'.drew = wd at *
      refine ldW_blk (x := some ⟨b, 0, none⟩) e5' (by rfl) (ptr_i ?_)
      refine ld_blk (o := 2) (x := (some ⟨r, 0, none⟩, (merge (loadL ps) (newL n) (at0 + k)).length, (merge (loadL ps) (newL n) (at0 + k)).length + 0)) e7'.head (by rfl) ?_
      refine ldW_blk (x := ((at0 + k : Nat) : Int)) e6' (by rfl) ?_
      refine callW_of (octof_calls hsub (by omega)) ?_
      rintro _ w12 ⟨rfl, he12⟩
      refine ⟨_, rfl, ?_⟩
      rw [show k * 2 = 2 * k by omega, ← hgetw k (by omega)]
      have hml := merge_length (D := loadL ps) (N := newL n) (by omega) (at0 + k)
      have hklt : at0 + k < n := by omega
      refine ⟨fun ls hls p hp => ?_, ?_⟩
      · simp only [List.mem_cons, List.not_mem_nil, or_false] at hls
        rcases hls with rfl | rfl | rfl <;> (simp only [List.mem_singleton] at hp; subst hp)
        · rw [(e6'.ext he12).cell]; rfl
        · rw [add_mk, (e7'.head.ext he12).cell]; rfl
        · rw [(e5'.ext he12).cell]; rfl
      dsimp only
      refine guard_i ⟨by omega, by omega⟩ (ptr_i ?_)
      rw [Int.toNat_natCast, Nat.mul_one, add_mk, Nat.zero_add]
      have hDlt : (loadL ps).getD (at0 + k) 0 < 65536 := by
        rw [List.getD_eq_getElem?_getD, List.getElem?_eq_getElem (by omega)]
        exact loadL_lt ps _ (List.getElem_mem _)
      rw [show IntKind.wrap .u16 (((loadL ps).getD (at0 + k) 0 : Nat) : Int) = (((loadL ps).getD (at0 + k) 0 : Nat) : Int) by rw [wrap_u16]; omega]
      have hc12 := e7'.ext he12
      obtain ⟨hc13, hg13⟩ := hc12.merge (m := at0 + k) (by omega) (by omega)
      refine stW_blk hc12.row (by rw [List.append_nil, length_uV]; omega) ?_
      have h1013 := (e6'.ext he12).grown hg13 (by simp; omega)
      have h413 := (e5'.ext he12).grown hg13 (by simp; omega)
      have he13 : Ext w _ := (e1.trans he12).grown hg13 (fun j hj => by injection hj with hj; omega)
      have hkeep13 : ∀ j : Nat, j < w'.heap.size → j ≠ r → (w12.setCell ⟨r, at0 + k, none⟩ (.int .u16 ((loadL ps).getD (at0 + k) 0 : Int))).heap[j]? = w'.heap[j]? := fun j hj hne => by
        have hdj : w'.drew.heap[j]? = w'.heap[j]? := rfl
        rw [hg13.block j (by have := he12.size; have := he1'.size; omega) (by simp; omega), he12.block j (by have := he1'.size; omega), ← hwd]
        exact hdj
      have hs13 := hg13.size
      generalize w12.setCell ⟨r, at0 + k, none⟩ (.int .u16 ((loadL ps).getD (at0 + k) 0 : Int)) = w13 at hc13 hg13 h1013 h413 he13 hkeep13 hs13 ⊢
      refine ldW_blk (x := ((at0 + k : Nat) : Int)) h1013 (by rfl) ?_
      refine stW_blk h1013 (by simp) ?_
      rw [wrap_i64 (by omega) (by omega), show ((at0 + k : Nat) : Int) + 1 = ((at0 + (k + 1) : Nat) : Int) by omega]
      have h1014 := h1013.set 0 (.int .i64 ((at0 + (k + 1) : Nat) : Int))
      have hset : ∀ j : Nat, j ≠ r10 → (w13.setCell ⟨r10, 0, none⟩ (.int .i64 ((at0 + (k + 1) : Nat) : Int))).heap[j]? = w13.heap[j]? := fun j hj => Below.heap_setCell _ _ _ _ (by simp only; omega)
      have hall : ∀ j : Nat, j < w'.heap.size → j ≠ r → j ≠ r10 → (w13.setCell ⟨r10, 0, none⟩ (.int .i64 ((at0 + (k + 1) : Nat) : Int))).heap[j]? = w'.heap[j]? := fun j h1 h2 h3 => (hset j h3).trans (hkeep13 j h1 h2)
      refine hN _ ⟨he13.set (by simp only; omega) _, ⟨(hall _ (by omega) (by omega) (by omega)).trans e2, (hall _ (by omega) (by omega) (by omega)).trans e3⟩, ⟨e4.1, e4.2.1, fun hn => ?_⟩, (hset _ (by omega)).trans h413, h1014, hc13.kept (k := r10) ⟨rfl, rfl, rfl, by simp, fun k hk hne => Below.heap_setCell _ _ _ _ (fun e => hne (by rw [e]))⟩ (by omega) (by omega), fun j hj => ?_⟩ (by have := he12.size; have := he1'.size; simp; omega) (fun j hj => hall j (by omega) (by omega) (by omega))
      · obtain ⟨a, ha, hcell⟩ := e4.2.2 hn
        refine ⟨a, ha, fun j v hj => ?_⟩
        injection ha with ha
        subst ha
        have := hcell j v hj
        rw [add_mk] at this ⊢
        simp only [World.cell?] at this ⊢
        rw [hall _ (by omega) (by omega) (by omega)]
        exact this
      · have hjl : j < w11.heap.size := (Array.getElem?_eq_some_iff.1 hj).1
        have hjr : j ≠ r := fun e => by rw [e, show w11.heap[r]? = _ from hc11.row] at hj; simp at hj
        have hjr10 : j ≠ r10 := fun e => by rw [e, show w11.heap[r10]? = _ from hr1011] at hj; simp at hj
        rw [hall j (by omega) hjr hjr10]
        exact e8 j hj
    · rintro w' ⟨e1, ⟨e2, e3⟩, e4, e5, e6, e7, e8⟩ hsz' hd
      rw [hcn] at e6 e7
      have e9 : at0 + s.size / 2 = (loadL (ps.take (i + 1))).length := by omega
      rw [e9] at e6 e7
      rw [wrap_i64 (by omega) (by omega)]
      refine ⟨⟨i + 1, ⟨.collected w11.heap.size, #[]⟩ :: ds, by omega, rfl, e1, e5, e6, e7, w11.heap.size, rfl, by omega, hd, fun d' hd' e => ?_, hds11.kept fun k h1 _ => e8 k h1⟩, by omega⟩
      have := hds11.lt d' hd' _ e
      omega
  · obtain rfl : i = np := by omega
    refine splitW_f (decide_eq_false (by omega)) ?_
    rw [List.take_of_length_le (by omega), show (loadL ps).length = (loadL ps).length from rfl, merge_full (by omega)] at hc9
    have hlen : (loadL ps).length = n := hDl
    have rd : ∀ {K : (Option Addr × Nat × Nat) → WP}, K (some ⟨r, 0, none⟩, (loadL ps).length, (loadL ps).length + 0) w9 → (ldW .ptr (⟨r4, 0, none⟩ : Addr) fun (u : Option Addr) => ptrW u fun (p : Addr) => ldW .slc (p.add 2) K) w9 := fun {K} hk =>
      ldW_blk (x := some ⟨b, 0, none⟩) hr49 (by rfl) (ptr_i (ld_blk (o := 2) (x := (some ⟨r, 0, none⟩, (loadL ps).length, (loadL ps).length + 0)) hc9.head (by rfl) hk))
    refine rd ?_
    dsimp only
    refine guard_i ⟨by omega, by omega⟩ (ptr_i ?_)
    refine ld_blk hc9.row (x := ((loadL ps).getD 0 0 : Nat)) (show (uV .u16 (loadL ps) ++ [])[Int.toNat 0 * 1]? = _ from uVq_get (i := 0) (by omega)) ?_
    have hE := hE
    refine splitW_i (fun h0 => ?_) (fun h0 => ?_)
    · have h0 := bne_iff_ne.1 h0
      have e : loadE size n ps = 4 := by rw [hE, if_neg (by simpa using hf), if_neg (by omega)]
      refine leave_all ds w9 hds fun w' hs => ⟨none, by rw [e], by rw [e, if_neg (by omega)], he9.sameDf hs⟩
    refine rd ?_
    dsimp only
    refine guard_i ⟨by omega, by omega⟩ (ptr_i ?_)
    refine ld_blk hc9.row (x := ((loadL ps).getD 1 0 : Nat)) (show (uV .u16 (loadL ps) ++ [])[Int.toNat 1 * 1]? = _ from uVq_get (i := 1) (by omega)) ?_
    refine splitW_i (fun h1 => ?_) (fun h1 => ?_)
    · have h1 := bne_iff_ne.1 h1
      have e : loadE size n ps = 4 := by rw [hE, if_neg (by simpa using hf), if_neg (by omega)]
      refine leave_all ds w9 hds fun w' hs => ⟨none, by rw [e], by rw [e, if_neg (by omega)], he9.sameDf hs⟩
    have h0 := bne_eq_false_iff_eq.1 h0
    have h1 := bne_eq_false_iff_eq.1 h1
    have e : loadE size n ps = 0 := by rw [hE, if_neg (by simpa using hf), if_pos (by omega)]
    refine ldW_blk (x := some ⟨b, 0, none⟩) hr49 (by rfl) ?_
    refine leave_all ds w9 hds fun w' hs => ⟨some ⟨b, 0, none⟩, by rw [e], ?_, he9.sameDf hs⟩
    rw [e, if_pos rfl]
    exact ⟨b, r, rfl, ⟨hc9.head.sameDf hs, hc9.row.sameDf hs, hc9.ne, hc9.len, hc9.fits⟩, by omega, by omega⟩
end Go.Proofs.Ytmogbadaoaikcaa.V
