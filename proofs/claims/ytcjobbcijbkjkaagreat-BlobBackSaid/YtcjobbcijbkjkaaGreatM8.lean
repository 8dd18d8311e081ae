/- Texts of mine, merged (wip/tool/merge.py): Great2, Great3, KAt2, LB. -/
import Derived.Test.YtcjobbcijbkjkaaGreatM7
import Derived.Test.YtcjobbcijbkjkaaGreatM4
/- Spaces that are well: Commit, Format, Mark, Back, Done, Share, Drop: plain. -/
set_option linter.unusedVariables false
set_option linter.unusedSimpArgs false
namespace Go.Proofs.YtcjobbcijbkjkaaGreat.V
open Go Go.Proofs Go.RowKit Crc

theorem WellC.swap {N : Nat} {ps ps' : List Nat} {pg pg' : PgF} {c c' R : List Nat} (h : WellC N ps pg c R) (hl : c'.length = N) (hh : c'.getD 0 0 = 1 ∧ c'.getD 1 0 = 1) (hps : ∀ p ∈ ps', 2 ≤ p ∧ p < N ∧ c'.getD p 0 = 1)
    (hu : ∀ n, usedC ps' c' n = usedC ps c n) (hpg : ∀ n, usedC ps c n = true → pg' n = pg n) (hc : ∀ n, 2 ≤ n → n ∉ ps' → c'.getD n 0 = if n ∈ ps then 0 else c.getD n 0) : WellC N ps' pg' c' R := by
  have hs : ∀ x, sumC N ps' pg' c' x = sumC N ps pg c x := by
    intro x
    unfold sumC
    congr 1
    apply List.map_congr_left
    intro m _
    unfold refC
    rw [hu m]
    by_cases hm : usedC ps c m = true
    · rw [if_pos hm, if_pos hm, kidsP, hpg m hm]
    · rw [if_neg hm, if_neg hm]
  refine ⟨hl, h.two, hh, hps, fun n hn => by rw [hu]; exact h.root n hn, fun n hn => ?_, ?_, fun n h2 hn => ?_⟩
  · rw [hu] at hn
    rw [kidsP, hpg n hn]
    exact ⟨(h.good n hn).1, fun k hk => by rw [hu]; exact (h.good n hn).2 k hk⟩
  · obtain ⟨r, hr⟩ := h.rank
    refine ⟨r, fun n hn k hk => ?_⟩
    rw [hu] at hn
    rw [kidsP, hpg n hn] at hk
    exact hr n hn k hk
  · rw [hs, hc n h2 hn]
    by_cases hp : n ∈ ps
    · rw [if_pos hp]
      have hnu : ∀ k, usedC ps c k = true → k ≠ n := fun k hk e => (usedC_iff.1 hk).2.1 (e ▸ hp)
      have h1 : R.count n = 0 := List.count_eq_zero.2 (fun hm => hnu n (h.root n hm) rfl)
      have h2 : sumC N ps pg c n = 0 := by
        unfold sumC
        rw [sum_congr (g := fun _ => 0) (fun m _ => ?_)]
        · exact sum_zeros _
        · unfold refC
          split
          · rename_i hm
            exact List.count_eq_zero.2 (fun hk => hnu n ((h.good m hm).2 n hk) rfl)
          · rfl
      omega
    · rw [if_neg hp]
      exact h.sum n h2 hp
theorem other_two {s : Int} (h : s = 0 ∨ s = 1) : (other s = 0 ∨ other s = 1) ∧ other (other s) = s ∧ other s ≠ s := by
  rcases h with rfl | rfl <;> decide
theorem great_commit {S : Spa} {R H : List Nat} {M : Option (List Nat)} (h : Great S R H M) {root : Nat} (hroot : root = 0 ∨ usedC S.sup.pages S.now root = true) (hgen : S.sup.gen + 1 < 1000000000000) (hfit : ∀ n, S.now.getD n 0 < 65536) :
    S.commit root = (⟨(S.comD root).1, S.next root, other S.slot, S.comC, S.comC, none⟩, 0) ∧ Great (S.commit root).1 R R none ∧ (S.comD root).1.pen = [] ∧ (∀ k, usedC S.sup.pages S.now k = true → (S.commit root).1.page k = S.page k) ∧ S.comE root = 0 ∧ chk (S.next root) = 0 ∧ (S.next root).Fits := by
  have hg := h.good
  have ho := h.heldOK
  have hP := ho.pgsOk hg
  have hdim := hg.dims
  have hN := hdim.n
  have hbl := hdim.blocks
  have hlen := hg.ok.now
  have hsz := hg.ok.size
  have hsb := hg.ok.blocks
  obtain ⟨⟨c1, c2, c3, c4⟩, c5, c6⟩ := chk_ok ho.chk
  have hnl : S.ns.length = S.sup.pages.length := by have := h.room; unfold Spa.ns; rw [List.length_take]; unfold Spa.freeN at this; omega
  have hnsm : ∀ k ∈ S.ns, k < S.N ∧ 2 ≤ k ∧ S.now.getD k 0 = 0 ∧ k ∉ S.sup.pages := fun k hk => by
    obtain ⟨a1, a2, a3⟩ := ns_free hk
    have a4 := (isFree_iff.1 a3).1
    exact ⟨a1, a2, a4, fun e => by have := (hP.at_ k e).2.2; omega⟩
  have hE : S.comE root = 0 := by
    unfold Spa.comE
    have hroot' : root ≠ 0 → S.asked root = true ∧ S.now.getD root 0 ≠ 0 := fun hr => by
      rcases hroot with e | e
      · exact absurd e hr
      · have := used_asked hg e
        exact ⟨this.1, this.2.1⟩
    rw [if_neg (fun hh => by rw [(hroot' hh.1).1] at hh; cases hh.2), if_neg (fun hh => (hroot' hh.1).2 hh.2), if_neg (by have := h.room; omega)]
  have hrootlt : root < S.N := by
    rcases hroot with e | e
    · omega
    · exact (used_asked hg e).2.2
  have hff : (S.next root).Fits := ⟨by show S.sup.gen + 1 < _; omega, hg.ok.fits.size, hg.ok.fits.blocks, by show root < _; omega, fun p hm => by have := (hnsm p hm).1; omega⟩
  have hchk : chk (S.next root) = 0 := by
    rw [chk_long]
    · show (if 14 + 4 * (S.ns.length : Int) > roomOf S.sup.size then (3 : Int) else 0) = 0
      rw [hnl, if_neg (by omega)]
    · refine ⟨c1, (show S.sup.gen + 1 ≠ 0 by omega), ?_, (show (S.ns.length : Int) = pagesOf S.sup.size S.sup.blocks by rw [hnl]; exact c4)⟩
      rcases hroot with e | e
      · exact .inl e
      · right
        have := (usedC_iff.1 e).1
        show pageOK S.sup.blocks root = true
        unfold pageOK
        rw [decide_eq_true]
        exact ⟨this, by omega⟩
    · intro j hj
      have hj : j < S.ns.length := hj
      have eg : (S.next root).pages.getD j 0 = S.ns[j] := by show S.ns.getD j 0 = _; rw [List.getD_eq_getElem?_getD, List.getElem?_eq_getElem hj]; rfl
      obtain ⟨a1, a2, a3, a4⟩ := hnsm _ (List.getElem_mem hj)
      refine ⟨?_, ?_, ?_⟩
      · rw [eg]
        show pageOK S.sup.blocks _ = true
        unfold pageOK
        rw [decide_eq_true]
        exact ⟨a2, by omega⟩
      · rw [eg]
        show S.ns[j] ≠ root
        intro e
        rcases hroot with e2 | e2
        · omega
        · have := (usedC_iff.1 e2).2.2
          rw [e] at a3
          omega
      · rw [eg]
        intro hm
        have hnd := ns_nodup S
        rw [← List.take_append_drop j S.ns, List.drop_eq_getElem_cons hj, List.nodup_append] at hnd
        exact hnd.2.2 _ hm _ List.mem_cons_self rfl
  obtain ⟨o1, o2, o3⟩ := other_two ho.slot
  have hps : ∀ p ∈ (S.next root).pages, 2 ≤ p ∧ (p : Int) < S.dev.blocks := fun p hp => by have := hnsm p hp; rw [← hsb, hbl]; omega
  have hcl := comC_length S
  obtain ⟨k1, k2, k3, k4⟩ := commit_good (d := S.dev) ⟨hg.dev, hg.fuse⟩ (c := S.comC) (s := S.next root) (slot := other S.slot) hchk hsz hps o1
  obtain ⟨r1, r2, r3⟩ := commit_reads (d := S.dev) ⟨hg.dev, hg.fuse⟩ (c := S.comC) (s := S.next root) (slot := other S.slot) hchk hsz hps (ns_nodup S) o1 (by show S.ns.length = _; rw [hnl, hP.len, hcl, hlen, hsz])
  have dm := commitD_dim S.dev S.comC (S.next root) (other S.slot)
  have eD : S.comD root = commitD S.dev S.comC (S.next root) (other S.slot) := rfl
  have eC : S.commit root = (⟨(S.comD root).1, S.next root, other S.slot, S.comC, S.comC, none⟩, 0) := by
    unfold Spa.commit
    rw [if_neg (fun hh => hh hE), if_neg (fun hh => hh k1)]
  have hpage : ∀ k, usedC S.sup.pages S.now k = true → (S.commit root).1.page k = S.page k := by
    intro k hk
    rw [eC]
    have hkN := (used_asked hg hk).2.2
    obtain ⟨a1, a2, a3⟩ := usedC_iff.1 hk
    show pageR S.N (B ((S.comD root).1.read k).1) = pageR S.N (B (S.dev.read k).1)
    rw [eD, r2 (k : Int) (by omega) (by rw [← hsb, hbl]; omega) (by omega) (fun p hp e => by
      have := (hnsm p hp).2.2.1
      have e : p = k := by omega
      subst e
      omega)]
  have hget := comC_get hlen hP
  have hu : ∀ k, usedC S.ns S.comC k = usedC S.sup.pages S.now k := by
    intro k
    rw [Bool.eq_iff_iff, usedC_iff, usedC_iff, hget k]
    by_cases hp : k ∈ S.sup.pages
    · simp [hp]
    · rw [if_neg hp]
      by_cases hn : k ∈ S.ns
      · have := (hnsm k hn).2.2.1
        simp only [hn, not_true_eq_false, false_and, and_false, hp, not_false_eq_true, true_and, false_iff, not_and]
        intro _; omega
      · rw [if_neg hn]; simp [hn, hp]
  have hw : WellC S.N S.ns (S.commit root).1.page S.comC R := by
    refine WellC.swap hg.well (hcl.trans hlen) ?_ (fun p hp => ?_) hu hpage (fun n h2 hn => ?_)
    · have hd := hg.well.head
      rw [hget, hget, if_neg (fun e => by have := (hP.at_ 0 e).1; omega), if_neg (fun e => by have := (hnsm 0 e).2.1; omega), if_neg (fun e => by have := (hP.at_ 1 e).1; omega), if_neg (fun e => by have := (hnsm 1 e).2.1; omega)]
      exact hd
    · obtain ⟨a1, a2, a3, a4⟩ := hnsm p hp
      exact ⟨a2, a1, by rw [hget, if_neg a4, if_pos hp]⟩
    · rw [hget, if_neg hn]
  rw [eC] at hw hpage
  refine ⟨eC, ?_, k3, by rw [eC]; exact hpage, hE, hchk, hff⟩
  rw [eC]
  refine ⟨⟨⟨?_, ?_, hff, ?_, ?_, fun l hl => by cases hl⟩, k2.ok, k2.fuse, hgen, hw⟩, ⟨o1, hchk, ?_, ?_, ?_, ?_⟩, hw, trivial, ?_⟩
  · show S.sup.size = (S.comD root).1.size
    rw [eD, dm.1]; exact hsz
  · show S.sup.blocks = (S.comD root).1.blocks
    rw [eD, dm.2]; exact hsb
  · show S.comC.length = S.N
    rw [hcl, hlen]
  · show S.comC.length = S.N
    rw [hcl, hlen]
  · show getS (B ((S.comD root).1.read (other S.slot)).1) = _
    rw [eD, r1, B_mkB]
    exact getS_put hff (by rw [putS_good hchk])
  · right
    show (getS (B ((S.comD root).1.read (other (other S.slot))).1)).1.gen < S.sup.gen + 1
    rw [o2, eD, r2 S.slot (by have := ho.slot; omega) (by rw [← hsb, hbl]; have := ho.slot; have := hg.well.two; omega) (fun e => o3 e.symm) (fun p hp => by have := (hnsm p hp).2.1; have := ho.slot; omega), ho.cur]
    show S.sup.gen < _
    omega
  · intro i hi
    have hi : i < S.ns.length := hi
    show ((S.comD root).1.read ((S.ns.getD i 0 : Nat) : Int)).1 = mkB (putB (S.comD root).1.size.toNat (2, S.sup.gen + 1, (pagesL S.comC (perOf (S.comD root).1.size)).getD i ByteArray.empty))
    rw [eD, dm.1]
    exact r3 i hi
  · intro c hc
    obtain ⟨i, hi, e⟩ := List.mem_iff_getElem.1 hc
    have e : S.comC.getD i 0 = c := by rw [List.getD_eq_getElem?_getD, List.getElem?_eq_getElem hi]; exact e
    rw [← e, hget]
    have := hfit i
    split
    · omega
    · split <;> omega
  · show S.ns.length ≤ List.length _
    rw [hnl]
    refine nodup_sub hP.nodup (fun p hp => ?_)
    obtain ⟨a1, a2, a3⟩ := hP.at_ p hp
    refine freeL_mem.2 ⟨a2, a1, isFree_iff.2 ⟨?_, ?_, rfl⟩⟩
    · show S.comC.getD p 0 = 0
      rw [hget, if_pos hp]
    · show S.comC.getD p 0 = 0
      rw [hget, if_pos hp]
/-! ### Format -/
theorem fmtN_le2 {size : Int} {N : Nat} (h : geoOK size N = true) : 2 * fmtN size N + 2 ≤ N := by
  obtain ⟨h8, n, hn, h1, h2⟩ := geo8 h
  obtain rfl : N = n := by omega
  obtain ⟨hp1, hp2, _⟩ := perOf_spec h8
  have hx : cutsN N (perOf size) ≤ (N + 55) / 56 := by
    unfold cutsN
    rw [Nat.div_le_iff_le_mul_add_pred (by omega)]
    have h3 : N + 55 < 56 * ((N + 55) / 56 + 1) := Nat.lt_mul_div_succ _ (by omega)
    have h4 : 56 * ((N + 55) / 56) ≤ perOf size * ((N + 55) / 56) := Nat.mul_le_mul_right _ hp1
    omega
  unfold fmtN
  omega
theorem getS_zero (n : Nat) : (getS (B (zeroB n))).2 ≠ 0 := by
  intro h
  obtain ⟨h1, h2⟩ := getS_ok h
  have hc := putS_ok (s := (getS (B (zeroB n))).1) (by rw [h1])
  rw [putS_good hc] at h1
  injection h1 with h1 _
  have h3 : (B (zeroB n)).getD 0 0 = 0 := by
    unfold zeroB
    have : ∀ k : Nat, (List.replicate k (0 : UInt8)).getD 0 0 = 0 := fun k => by cases k <;> rfl
    first
      | (rw [B_mk]; exact this _)
      | (rw [B_mkB]; exact this _)
  rw [← h1] at h3
  have h4 : (putB (getS (B (zeroB n))).1.size.toNat (fraS (getS (B (zeroB n))).1)).getD 0 0 = 1 := by
    unfold putB bodyB headB
    rfl
  rw [h4] at h3
  cases h3
theorem great_format {d : Dev} (h : DevG d) (hchk : chk (fmtS d.size d.blocks.toNat) = 0) : (formatD d).2 = 0 ∧ Great (formatS d) [] [] none ∧ (formatS d).dev.pen = [] := by
  obtain ⟨g1, g2, g3⟩ := format_good h hchk
  refine ⟨g1, ?_, g3⟩
  obtain ⟨z, N, e1, e2, e3, e4, e5, e6, e7, e8⟩ := h.ok.facts
  have hN : d.blocks.toNat = N := by omega
  have hg : geoOK d.size (N : Int) = true := by rw [← e2]; exact h.ok.geo
  obtain ⟨n1, n2, n3⟩ := fmtN_le hg
  have n4 := fmtN_le2 hg
  rw [hN] at hchk
  have hz : (((zeroB d.size.toNat).size : Nat) : Int) = d.size := by rw [zeroB_size]; omega
  have h1 : 0 ≤ (1 : Int) ∧ (1 : Int) < d.blocks := by omega
  obtain ⟨q1, q2, q3⟩ := write_ok h.ok h1 hz h.fuse
  have hw0 := (read_write h.ok h1 hz (by rw [h.fuse]; decide) h1).1
  have hw1 := (read_write h.ok h1 hz (by rw [h.fuse]; decide) h1).2
  have hwd := write_dim d 1 (zeroB d.size.toNat)
  have hpm : ∀ p, p ∈ fmtP (fmtN d.size N) ↔ 2 ≤ p ∧ p < 2 + fmtN d.size N := fun p => by
    unfold fmtP
    constructor
    · intro hp
      obtain ⟨i, hi, rfl⟩ := List.mem_map.1 hp
      have := List.mem_range.1 hi
      omega
    · intro hp
      exact List.mem_map.2 ⟨p - 2, List.mem_range.2 (by omega), by omega⟩
  have hnd : (fmtP (fmtN d.size N)).Nodup := by
    unfold fmtP
    rw [List.nodup_iff_pairwise_ne, List.pairwise_map]
    exact List.Pairwise.imp (fun hab e => by omega) List.pairwise_lt_range
  have hfl := fmtC_length (N := N) (np := fmtN d.size N) n1
  obtain ⟨r1, r2, r3⟩ := commit_reads (d := (d.write 1 (zeroB d.size.toNat)).1) ⟨q1, q2⟩ (c := fmtC N (fmtN d.size N)) (s := fmtS d.size N) (slot := 0) hchk hwd.1.symm (fun p hp => by have := (hpm p).1 hp; rw [hwd.2.1]; omega) hnd (.inl rfl) (by rw [hwd.1, hfl]; exact fmtP_length _)
  have eD : formatD d = commitD (d.write 1 (zeroB d.size.toNat)).1 (fmtC N (fmtN d.size N)) (fmtS d.size N) 0 := by
    unfold formatD
    rw [hN, if_neg (fun hh => hh hchk), if_neg (fun hh => hh hw0)]
  have dm := commitD_dim (d.write 1 (zeroB d.size.toNat)).1 (fmtC N (fmtN d.size N)) (fmtS d.size N) 0
  have eS : formatS d = ⟨(formatD d).1, fmtS d.size N, 0, fmtC N (fmtN d.size N), fmtC N (fmtN d.size N), none⟩ := by unfold formatS; rw [hN]
  rw [eS] at g2 ⊢
  refine ⟨g2, ⟨.inl rfl, hchk, ?_, .inl ?_, ?_, ?_⟩, g2.well, trivial, ?_⟩
  · show getS (B ((formatD d).1.read 0).1) = _
    rw [eD, r1, B_mkB]
    exact getS_put (fmtS_fits hg) (by rw [putS_good hchk])
  · show (getS (B ((formatD d).1.read 1).1)).2 ≠ 0
    rw [eD, r2 1 (by omega) (by rw [hwd.2.1]; omega) (by omega) (fun p hp => by have := (hpm p).1 hp; omega), hw1, if_pos rfl]
    exact getS_zero _
  · intro i hi
    show ((formatD d).1.read (((fmtP (fmtN d.size N)).getD i 0 : Nat) : Int)).1 = mkB (putB (formatD d).1.size.toNat ((2 : UInt8), 1, (pagesL (fmtC N (fmtN d.size N)) (perOf (formatD d).1.size)).getD i ByteArray.empty))
    rw [eD, dm.1]
    exact r3 i hi
  · intro c hc
    have hc : c ∈ fmtC N (fmtN d.size N) := hc
    unfold fmtC at hc
    rw [List.mem_append, List.mem_replicate, List.mem_replicate] at hc
    omega
  · show (fmtP (fmtN d.size N)).length ≤ List.length _
    rw [fmtP_length]
    have := nodup_sub (a := (List.range (fmtN d.size N)).map (· + (2 + fmtN d.size N))) (b := Spa.freeL ⟨(formatD d).1, fmtS d.size N, 0, fmtC N (fmtN d.size N), fmtC N (fmtN d.size N), none⟩) ?_ ?_
    · rw [List.length_map, List.length_range] at this
      exact this
    · rw [List.nodup_iff_pairwise_ne, List.pairwise_map]
      exact List.Pairwise.imp (fun hab e => by omega) List.pairwise_lt_range
    · intro k hk
      obtain ⟨i, hi, rfl⟩ := List.mem_map.1 hk
      have := List.mem_range.1 hi
      refine freeL_mem.2 ⟨by show i + (2 + fmtN d.size N) < ((N : Int)).toNat; omega, by omega, isFree_iff.2 ⟨?_, ?_, rfl⟩⟩
      · show (fmtC N (fmtN d.size N)).getD _ 0 = 0
        rw [fmtC_get n1, if_neg (by omega)]
      · show (fmtC N (fmtN d.size N)).getD _ 0 = 0
        rw [fmtC_get n1, if_neg (by omega)]
/-! ### Marks -/
theorem great_mark {S : Spa} {R H : List Nat} {M : Option (List Nat)} (h : Great S R H M) : Great { S with mark := some S.now } R H (some R) := by
  have hd := h.good.ok
  refine ⟨⟨⟨hd.size, hd.blocks, hd.fits, hd.held, hd.now, fun l hl => by cases hl; exact hd.now⟩, h.good.dev, h.good.fuse, h.good.gen, h.good.well⟩, ⟨h.heldOK.slot, h.heldOK.chk, h.heldOK.cur, h.heldOK.old, h.heldOK.pgs, h.heldOK.fit⟩, h.hwell, h.good.well, Nat.le_trans h.room (freeN_mono rfl fun n hn => ?_)⟩
  obtain ⟨f1, f2, f3⟩ := isFree_iff.1 hn
  exact isFree_iff.2 ⟨f1, f2, f1⟩
theorem great_back {S : Spa} {R H m l : List Nat} (h : Great S R H (some m)) (hm : S.mark = some l) : Great { S with now := l, mark := none } m H none := by
  have hd := h.good.ok
  have hw := h.mwell
  rw [hm] at hw
  refine ⟨⟨⟨hd.size, hd.blocks, hd.fits, hd.held, hd.mark l hm, fun l hl => by cases hl⟩, h.good.dev, h.good.fuse, h.good.gen, hw⟩, ⟨h.heldOK.slot, h.heldOK.chk, h.heldOK.cur, h.heldOK.old, h.heldOK.pgs, h.heldOK.fit⟩, h.hwell, trivial, Nat.le_trans h.room (freeN_mono rfl fun n hn => ?_)⟩
  obtain ⟨f1, f2, f3⟩ := isFree_iff.1 hn
  rw [hm] at f3
  exact isFree_iff.2 ⟨f3, f2, rfl⟩
theorem great_done {S : Spa} {R H : List Nat} {M : Option (List Nat)} (h : Great S R H M) : Great { S with mark := none } R H none := by
  have hd := h.good.ok
  refine ⟨⟨⟨hd.size, hd.blocks, hd.fits, hd.held, hd.now, fun l hl => by cases hl⟩, h.good.dev, h.good.fuse, h.good.gen, h.good.well⟩, ⟨h.heldOK.slot, h.heldOK.chk, h.heldOK.cur, h.heldOK.old, h.heldOK.pgs, h.heldOK.fit⟩, h.hwell, trivial, Nat.le_trans h.room (freeN_mono rfl fun n hn => ?_)⟩
  obtain ⟨f1, f2, f3⟩ := isFree_iff.1 hn
  exact isFree_iff.2 ⟨f1, f2, rfl⟩
theorem Great.less {S : Spa} {R R' H : List Nat} {M : Option (List Nat)} {c : List Nat} (h : Great S R H M) (hg : Good { S with now := c } R') (hle : ∀ k, c.getD k 0 ≤ S.now.getD k 0) : Great { S with now := c } R' H M := by
  refine h.setNow hg (Nat.le_trans h.room (freeN_mono rfl fun n hn => ?_))
  obtain ⟨f1, f2, f3⟩ := isFree_iff.1 hn
  exact isFree_iff.2 ⟨by have := hle n; show c.getD n 0 = 0; omega, f2, f3⟩
theorem Great.more {S : Spa} {R R' H : List Nat} {M : Option (List Nat)} {n : Nat} (h : Great S R H M) (hu : usedC S.sup.pages S.now n = true) (hg : Good { S with now := S.now.set n (S.now.getD n 0 + 1) } R') : Great { S with now := S.now.set n (S.now.getD n 0 + 1) } R' H M := by
  refine h.setNow hg (Nat.le_trans h.room (freeN_mono rfl fun k hk => ?_))
  obtain ⟨f1, f2, f3⟩ := isFree_iff.1 hk
  refine isFree_iff.2 ⟨?_, f2, f3⟩
  show (S.now.set n (S.now.getD n 0 + 1)).getD k 0 = 0
  have := (usedC_iff.1 hu).2.2
  rw [getD_setN, if_neg (fun e => by rw [e.1] at this; omega)]
  exact f1
end Go.Proofs.YtcjobbcijbkjkaaGreat.V

/- Spaces that are well, and blobs; what may have changed is told by Kept: plain. -/
set_option linter.unusedVariables false
set_option linter.unusedSimpArgs false
namespace Go.Proofs.YtcjobbcijbkjkaaGreat.V
open Go Go.Proofs Go.RowKit Crc

theorem Great.kept {S S' : Spa} {R R' H : List Nat} {M : Option (List Nat)} (h : Great S R H M) (hk : Kept S S') (hg : Good S' R') (hr : S.sup.pages.length ≤ S'.freeN) : Great S' R' H M := by
  have hN : S'.N = S.N := by unfold Spa.N; rw [hk.sup]
  have hn := h.good.dims.n
  have h2 := h.good.well.two
  have ho := h.heldOK
  have hslot : ∀ j : Int, j = 0 ∨ j = 1 → (S'.dev.read j).1 = (S.dev.read j).1 := fun j hj => hk.read j (by omega) (by omega) (.inl (by omega))
  have hpage : ∀ k, k < S.N → S.isFree k = false → S'.page k = S.page k := fun k hkN hf => by
    unfold Spa.page
    rw [hN, hk.read (k : Int) (by omega) (by omega) (.inr (by rw [Int.toNat_natCast]; exact hf))]
  have nofree : ∀ k, (S.now.getD k 0 ≠ 0 ∨ S.held.getD k 0 ≠ 0 ∨ cnt S.mark k ≠ 0) → S.isFree k = false := fun k hh => by
    cases hq : S.isFree k with
    | false => rfl
    | true =>
      obtain ⟨f1, f2, f3⟩ := isFree_iff.1 hq
      rcases hh with e | e | e
      · exact absurd f1 e
      · exact absurd f2 e
      · exact absurd f3 e
  refine ⟨hg, ⟨?_, ?_, ?_, ?_, ?_, ?_⟩, ?_, ?_, by rw [hk.sup]; exact hr⟩
  · rw [hk.slot]; exact ho.slot
  · rw [hk.sup]; exact ho.chk
  · rw [hk.slot, hk.sup, hslot _ ho.slot]; exact ho.cur
  · rw [hk.slot, hk.sup, hslot _ (by unfold other; split <;> simp)]; exact ho.old
  · intro i hi
    rw [hk.sup] at hi ⊢
    have hm : S.sup.pages.getD i 0 ∈ S.sup.pages := by rw [List.getD_eq_getElem?_getD, List.getElem?_eq_getElem hi]; exact List.getElem_mem _
    obtain ⟨a1, a2, a3⟩ := h.good.well.pgs _ hm
    rw [hk.held, hk.dim.1, hk.read _ (by omega) (by omega) (.inr (nofree _ (.inl (by rw [Int.toNat_natCast]; omega))))]
    exact ho.pgs i hi
  · rw [hk.held]; exact ho.fit
  · rw [hN, hk.sup, hk.held]
    exact WellC.pgs_eq h.hwell (fun m hm => hpage m (h.hwell.lt hm) (nofree m (.inr (.inl (by have := (usedC_iff.1 hm).2.2; omega)))))
  · rw [hN, hk.sup, hk.mark]
    exact h.mwell.pgs_eq (fun m hm _ hmN => hpage m hmN (nofree m (.inr (.inr hm))))
end Go.Proofs.YtcjobbcijbkjkaaGreat.V

/- Spaces of one's own, short: Commit, Open, Root, Format of nothing. -/
set_option linter.unusedVariables false
set_option linter.unusedSimpArgs false
namespace Go.Proofs.YtcjobbcijbkjkaaGreat.V
open Go Go.Proofs Go.RowKit Crc

variable {w0 w w' : World} {b db : Nat} {S : Spa} {R H : List Nat} {M : Option (List Nat)}
theorem at_commit (h : At w0 w b db S) (hg : Great S R H M) {root : Nat} (hroot : root = 0 ∨ usedC S.sup.pages S.now root = true) (hgen : S.sup.gen + 1 < 1000000000000) (hpen : S.dev.pen.length ≤ 900000) :
    Calls Tryz.prog 25 #[.pointer (some ⟨b, 0, none⟩), .int .u32 (root : Int)] w (Ret fun v w' => v = .int .i64 0 ∧ Great (S.commit root).1 R R none ∧ At w0 w' b db (S.commit root).1) := by
  have hfit := h.fit
  obtain ⟨F, Fd, x, hb, hr, nb, nr, m, h', h2, hx⟩ := h.open_
  obtain ⟨c1, c2, c3, c4, c5, c6, c7⟩ := great_commit hg hroot hgen hfit
  have hr32 : root < 4294967296 := by
    have := hg.good.dims.n
    rcases hroot with e | e
    · omega
    · have := (used_asked hg.good e).2.2; omega
  refine (commitS_calls h' hg.good.h01 (hg.heldOK.pgsOk hg.good) (by omega) hpen hr32).mono (Ret.mono ?_)
  rintro v w' ⟨rfl, hst⟩
  exact ⟨by rw [c1], c2, At.step h2 hx hst⟩
theorem at_open (h : At w0 w b db S) (hg : Great S R H M) :
    Calls Tryz.prog 26 #[.pointer (some ⟨db, 0, none⟩)] w (Ret fun v w' => ∃ b', v = .tuple #[.pointer (some ⟨b', 0, none⟩), .int .i64 0] ∧ At w0 w' b' db { S with now := S.held, mark := none } ∧ Ext w w' ∧ w.heap.size ≤ b') := by
  obtain ⟨F, Fd, x, hb, hr, nb, nr, m, h', h2, hx⟩ := h.open_
  obtain ⟨o1, o2⟩ := great_open hg
  refine (open_calls h'.dev).mono (Ret.mono ?_)
  rintro v w' ⟨he, ⟨hn, _⟩ | ⟨_, b', F', rfl, hS, hb', hF⟩⟩
  · exact absurd o1 hn
  · rw [o2] at hS
    refine ⟨b', rfl, ⟨F', hS, fun k hk => ?_, hx.trans he⟩, he, hb'⟩
    rcases hF k hk with e | e
    · exact h2 k ((h'.own k).2 (.inl e))
    · exact Nat.le_trans hx.size e
theorem at_root (h : At w0 w b db S) : Calls Tryz.prog 27 #[.pointer (some ⟨b, 0, none⟩)] w (Ret fun v w' => v = .int .u32 (S.sup.root : Int) ∧ w' = w) := by
  obtain ⟨F, Fd, x, hb, hr, nb, nr, m, h', h2, hx⟩ := h.open_
  exact root_calls h'
theorem format_nil (w : World) : Calls Tryz.prog 30 #[.pointer none] w (Ret fun v w' => v = .tuple #[.pointer none, .int .i64 1] ∧ w' = w) := by
  apply calls30
  unfold S30
  exact splitW_t (by rfl) ⟨rfl, rfl⟩
end Go.Proofs.YtcjobbcijbkjkaaGreat.V

/- Law 15: BlobBack. -/
set_option linter.unusedVariables false
set_option linter.unusedSimpArgs false
namespace Go.Proofs.YtcjobbcijbkjkaaGreat.V
open Go Go.Proofs Go.RowKit Crc

theorem made_calls (w : World) (size blocks : Int) : Calls Tryz.prog 8 #[.agg #[.int .i64 size, .int .i64 blocks]] w (Ret fun v w' => (∃ p, v = .tuple #[.pointer p, .pointer none] ∧ Ext w w') ∨
    (geoOK size blocks = true ∧ chk (fmtS size blocks.toNat) = 0 ∧ ∃ db b, v = .tuple #[.pointer (some ⟨db, 0, none⟩), .pointer (some ⟨b, 0, none⟩)] ∧ At w w' b db (formatS (dev0 size blocks)))) := by
  apply calls8
  unfold S8
  refine new_i fun r1 w1 hb1 he1 hr1 _ => ?_
  refine boxA (ls := [.int .i64, .int .i64]) (size, blocks, ()) hb1 rfl ?_
  refine callW_of (dnew_calls w1 size blocks) ?_
  rintro _ w2 (⟨hg, db, rfl, hd⟩ | ⟨hg, rfl, he2⟩)
  · refine ⟨(some ⟨db, 0, none⟩, 0, ()), rfl, ?_⟩
    refine callW_of (at_format (hd.pre he1) (devG0 hg) (by show ([] : List (Int × ByteArray)).length ≤ _; simp)) ?_
    rintro _ w3 (⟨hne, rfl, he3⟩ | ⟨hok, b, rfl, hat⟩)
    · exact ⟨(none, _, ()), rfl, splitW_t (bne_iff_ne.2 hne) (.inl ⟨_, rfl, he3⟩)⟩
    · refine ⟨(some ⟨b, 0, none⟩, 0, ()), rfl, splitW_f (by rfl) (.inr ⟨hg, ?_, db, b, rfl, hat⟩)⟩
      by_cases hc : chk (fmtS size blocks.toNat) = 0
      · exact hc
      · have : (formatD (dev0 size blocks)).2 = chk (fmtS size blocks.toNat) := by
          unfold formatD
          rw [if_pos (show chk (fmtS (dev0 size blocks).size (dev0 size blocks).blocks.toNat) ≠ 0 from hc)]
          rfl
        rw [this] at hok
        exact hok
  · refine ⟨(none, 2, ()), rfl, ?_⟩
    refine callW_of (format_nil w2) ?_
    rintro _ w3 ⟨rfl, hw3⟩
    rw [hw3]
    exact ⟨(none, 1, ()), rfl, splitW_t (by rfl) (.inl ⟨_, rfl, he1.trans he2⟩)⟩
def BbT (db b : Nat) (bs : ByteArray) (K : Value → WP) : WP :=
  callW Tryz.prog 16 [(.pointer (some ⟨b, 0, none⟩))] (.one (.one (.int .i64))) fun (u11 : Int) =>
  callW Tryz.prog 10 [(.pointer (some ⟨b, 0, none⟩)), (.string bs)] (.many [(.one (.int .u32)), (.one (.int .i64))]) fun (u12 : Int × Int × Unit) =>
  splitW (u12.2.1 != (0 : Int)) (splitW (u12.2.1 == (3 : Int)) (callW Tryz.prog 15 [(.pointer (some ⟨b, 0, none⟩))] (.one (.one (.int .i64))) fun (u13 : Int) =>
  splitW (decide (((bs.size : Nat) : Int) > u13)) (callW Tryz.prog 16 [(.pointer (some ⟨b, 0, none⟩))] (.one (.one (.int .i64))) fun (u14 : Int) =>
  splitW (u14 == u11) (callW Tryz.prog 23 [(.pointer (some ⟨b, 0, none⟩)), (.slice none 0 0)] (.one (.one (.int .i64))) fun (u15 : Int) => K (.bool (u15 == (0 : Int)))) <| K (.bool false)) <|
  splitW (u12.2.1 == (9 : Int)) (callW Tryz.prog 16 [(.pointer (some ⟨b, 0, none⟩))] (.one (.one (.int .i64))) fun (u16 : Int) =>
  splitW (u16 == u11) (callW Tryz.prog 23 [(.pointer (some ⟨b, 0, none⟩)), (.slice none 0 0)] (.one (.one (.int .i64))) fun (u17 : Int) => K (.bool (u17 == (0 : Int)))) <| K (.bool false)) <| K (.bool false)) <|
  splitW (u12.2.1 == (9 : Int)) (callW Tryz.prog 16 [(.pointer (some ⟨b, 0, none⟩))] (.one (.one (.int .i64))) fun (u18 : Int) =>
  splitW (u18 == u11) (callW Tryz.prog 23 [(.pointer (some ⟨b, 0, none⟩)), (.slice none 0 0)] (.one (.one (.int .i64))) fun (u19 : Int) => K (.bool (u19 == (0 : Int)))) <| K (.bool false)) <| K (.bool false)) <|
  callW Tryz.prog 11 [(.pointer (some ⟨b, 0, none⟩)), (.int .u32 u12.1)] (.many [(.one .str), (.one (.int .i64))]) fun (u20 : ByteArray × Int × Unit) =>
  callW Tryz.prog 12 [(.pointer (some ⟨b, 0, none⟩)), (.int .u32 u12.1)] (.many [(.one (.int .i64)), (.one (.int .i64))]) fun (u21 : Int × Int × Unit) =>
  callW Tryz.prog 17 [(.pointer (some ⟨b, 0, none⟩)), (.int .u32 u12.1)] (.many [(.one .slc), (.one .bool)]) fun (u22 : (Option Addr × Nat × Nat) × Bool × Unit) =>
  loopW (ByteArray × Int × Unit) ((ByteArray.mk #[]), (0 : Int), ()) fun (y24 : ByteArray × Int × Unit) (I23 : (ByteArray × Int × Unit) → WP) =>
  splitW (decide (y24.2.1 < ((u22.1.2.1 : Nat) : Int))) (guardW (0 ≤ y24.2.1 ∧ y24.2.1 < ((u22.1.2.1 : Nat) : Int)) <|
  ptrW u22.1.1 fun (p25 : Addr) =>
  ldW .str (p25.add (Int.toNat y24.2.1 * 1)) fun (u26 : ByteArray) =>
  guardW (((y24.1.size + u26.size : Nat) : Int) ≤ IntKind.i64.max) <| I23 ((y24.1 ++ u26), (IntKind.wrap .i64 (y24.2.1 + (1 : Int))), ())) <|
  joinW (Bool × Unit) (fun (J27 : (Bool × Unit) → WP) =>
  splitW (u20.2.1 != (0 : Int)) (J27 (true, ())) <|
  splitW (!(u20.1.toList == bs.toList)) (J27 (true, ())) <|
  splitW (u21.2.1 != (0 : Int)) (J27 (true, ())) <|
  splitW (u21.1 != ((bs.size : Nat) : Int)) (J27 (true, ())) <|
  splitW (!u22.2.1) (J27 (true, ())) <|
  splitW (!(y24.1.toList == bs.toList)) (J27 (true, ())) <|
  newW (.cells #[(.int .u32 u12.1)] 30) fun (r29 : Nat) =>
  callW Tryz.prog 23 [(.pointer (some ⟨b, 0, none⟩)), (.slice (some (⟨r29, 0, none⟩ : Addr)) 1 1)] (.one (.one (.int .i64))) fun (u30 : Int) =>
  splitW (u30 != (0 : Int)) (J27 (true, ())) <|
  callW Tryz.prog 25 [(.pointer (some ⟨b, 0, none⟩)), (.int .u32 u12.1)] (.one (.one (.int .i64))) fun (u31 : Int) => J27 ((u31 != (0 : Int)), ())) fun (y28 : Bool × Unit) =>
  splitW y28.1 (K (.bool false)) <|
  callW Tryz.prog 26 [(.pointer (some ⟨db, 0, none⟩))] (.many [(.one .ptr), (.one (.int .i64))]) fun (u32 : Option Addr × Int × Unit) =>
  splitW (u32.2.1 != (0 : Int)) (K (.bool false)) <|
  callW Tryz.prog 27 [(.pointer u32.1)] (.one (.one (.int .u32))) fun (u33 : Int) =>
  callW Tryz.prog 11 [(.pointer u32.1), (.int .u32 u33)] (.many [(.one .str), (.one (.int .i64))]) fun (u34 : ByteArray × Int × Unit) =>
  splitW (u34.2.1 == (0 : Int)) (splitW (u34.1.toList == bs.toList) (callW Tryz.prog 27 [(.pointer u32.1)] (.one (.one (.int .u32))) fun (u35 : Int) =>
  callW Tryz.prog 22 [(.pointer u32.1), (.int .u32 u35)] (.one (.one (.int .i64))) fun (u36 : Int) =>
  splitW (u36 == (0 : Int)) (callW Tryz.prog 23 [(.pointer u32.1), (.slice none 0 0)] (.one (.one (.int .i64))) fun (u37 : Int) => K (.bool (u37 == (0 : Int)))) <| K (.bool false)) <| K (.bool false)) <| K (.bool false)
theorem bb_tail {w0 w : World} {db b : Nat} {S : Spa} (h : At w0 w b db S) (hg : Great S [] [] none) (hpen : S.dev.pen = []) (hgen : S.sup.gen = 1) (bs : ByteArray) (hbs : bs.size ≤ 6000) :
    BbT db b bs (fun v w' => v = .bool true ∧ Ext w0 w') w := by
  unfold BbT
  have hpl : S.dev.pen.length ≤ 900000 := by rw [hpen]; simp
  have hN := h.N
  refine callW_of (at_free h) ?_
  rintro _ w1 ⟨rfl, h1, _⟩
  refine ⟨_, rfl, ?_⟩
  have bad : ∀ {w2 : World} {S2 : Spa}, At w0 w2 b db S2 → Good S2 [] → S2.freeN = S.freeN →
      (callW Tryz.prog 16 [(.pointer (some ⟨b, 0, none⟩))] (.one (.one (.int .i64))) fun (u14 : Int) =>
        splitW (u14 == (S.freeN : Int)) (callW Tryz.prog 23 [(.pointer (some ⟨b, 0, none⟩)), (.slice none 0 0)] (.one (.one (.int .i64))) fun (u15 : Int) => (fun w' => (Value.bool (u15 == (0 : Int))) = .bool true ∧ Ext w0 w')) <| (fun w' => (Value.bool false) = .bool true ∧ Ext w0 w')) w2 := by
    intro w2 S2 h2 hg2 hf2
    refine callW_of (at_free h2) ?_
    rintro _ w3 ⟨rfl, h3, _⟩
    refine ⟨_, rfl, splitW_t (by rw [hf2]; exact beq_self_eq_true _) ?_⟩
    refine callW_of (at_audit0 h3 hg2) ?_
    rintro _ w4 ⟨rfl, he4⟩
    exact ⟨_, rfl, rfl, h3.x.trans he4⟩
  refine callW_of (at_bput h1 hg.good hpl bs (by omega)) ?_
  rintro _ w2 (⟨q1, rfl, h2⟩ | ⟨q1, q2, S2, n, ks, hP, rfl, h2⟩ | ⟨q1, q2, S2, g2, e1, e2, e3, e4, e5, rfl, h2⟩)
  · refine ⟨(0, 3, ()), rfl, splitW_t (by rfl) (splitW_t (by rfl) ?_)⟩
    refine callW_of (at_most h2) ?_
    rintro _ w3 ⟨rfl, he3⟩
    refine ⟨_, rfl, splitW_t (decide_eq_true (by omega)) ?_⟩
    exact bad (h2.ext he3) hg.good rfl
  · refine ⟨((n : Int), 0, ()), rfl, splitW_f (by rfl) ?_⟩
    dsimp only
    have hn32 := hP.lt32
    have hbl := hP.bloba
    have hg2 : Great S2 [n] [] none := hg.kept hP.kept hP.good (by have := hP.free; omega)
    have hr1 : 1 ≤ S2.r0 := by have := (r0_spec hP.good.dims); omega
    have hfn := freeN_le S
    have hnp : ks.length ≤ 4096 := by rw [hP.klen]; omega
    refine callW_of (at_get h2 hn32 (hbl.plen hP.good.dims)) ?_
    rintro _ w3 ⟨rfl, he3⟩
    refine ⟨((bgetS S2 n).1, (bgetS S2 n).2, ()), rfl, ?_⟩
    rw [hbl.get hr1]
    refine callW_of (at_size (h2.ext he3) hn32) ?_
    rintro _ w4 ⟨rfl, he4⟩
    refine ⟨(((idxS S2 n).1 : Int), (idxS S2 n).2.2, ()), rfl, ?_⟩
    rw [hbl.idxS]
    dsimp only
    have h4 := (h2.ext he3).ext he4
    have hoks := hbl.oks hr1
    have hol : (okS S2 n).length = ks.length := by rw [hoks, List.length_map, List.length_range]
    obtain ⟨F, Fd, x, hb, hr, nb, nr, m, hS4, hFw, hx4⟩ := h4.open_
    have hr2 : 2 ≤ S2.r0 := by have := (r0_spec hP.good.dims); omega
    have h4000 : ks.length ≤ 4000 := by
      rw [hbl.len]
      rcases Nat.lt_or_ge 4000 (nparts S2.r0 bs.size) with hh | hh
      · have := (nparts_lt (r := S2.r0) (len := bs.size) (i := 4000) hr1).1 hh
        omega
      · exact hh
    refine callW_of (lparts_calls hS4 hn32 (by omega)) ?_
    rintro _ w5 ⟨y, rfl, hoy, he5⟩
    refine ⟨(y, true, ()), rfl, ?_⟩
    dsimp only
    have h5 := h4.ext he5
    have hyl := hoy.len
    have hgetp : ∀ i, i < ks.length → (okS S2 n).getD i ByteArray.empty = part S2.r0 bs i := fun i hi => by
      rw [hoks, List.getD_eq_getElem?_getD, List.getElem?_map, List.getElem?_range hi]
      rfl
    have hkn : ks.length = nparts S2.r0 bs.size := hbl.len
    refine loopW_i (fun y' w' => ∃ i : Nat, i ≤ y.2.1 ∧ y'.2 = ((i : Int), ()) ∧ w' = w5 ∧ B y'.1 = (List.range i).flatMap fun t => B (part S2.r0 bs t)) (fun y' => (y.2.1 - y'.2.1).toNat) ⟨0, by omega, rfl, rfl, rfl⟩ ?_
    rintro ⟨acc, yi⟩ w6 ⟨i, hi, rfl, rfl, hacc⟩
    dsimp only at hacc ⊢
    have hfl := parts_flat (r := S2.r0) hr1 bs
    have hsz : acc.size ≤ bs.size := by
      have := congrArg List.length hacc
      rw [hfl i (by omega), List.length_take, ← B_size, ← B_size] at this
      omega
    by_cases hlt : i < y.2.1
    · refine splitW_t (decide_eq_true (by omega)) ?_
      have hps := part_size (r := S2.r0) (b := bs) (i := i) hr1 (by omega)
      refine idx_str hoy.sl (by omega) (by omega) ?_
      rw [Int.toNat_natCast, hgetp i (by omega)]
      refine guard_i (by show ((acc.size + (part S2.r0 bs i).size : Nat) : Int) ≤ 9223372036854775807; omega) ?_
      refine ⟨⟨i + 1, by omega, by rw [wrap_i64 (by omega) (by omega)]; rfl, rfl, ?_⟩, by rw [wrap_i64 (by omega) (by omega)]; omega⟩
      rw [B_append, hacc, List.range_succ, List.flatMap_append]
      simp
    obtain rfl : i = y.2.1 := by omega
    refine splitW_f (decide_eq_false (by omega)) ?_
    have hall : acc = bs := by
      apply B_inj
      rw [hacc, hfl _ (by omega), List.take_of_length_le]
      rw [← B_size]
      have := mt (nparts_lt (r := S2.r0) (len := bs.size) (i := nparts S2.r0 bs.size) hr1).2 (by omega)
      rw [show y.2.1 = nparts S2.r0 bs.size by omega]
      omega
    subst hall
    have hu : usedC S2.sup.pages S2.now n = true := hP.good.well.root n List.mem_cons_self
    have hpen2 := hP.pen
    rw [hpen, List.length_nil] at hpen2
    have hgen2 : S2.sup.gen + 1 < 1000000000000 := by rw [hP.sup, hgen]; omega
    obtain ⟨c1, c2, c3, c4, c5, c6, c7⟩ := great_commit hg2 (root := n) (.inr hu) hgen2 h5.fit
    refine joinW_s (fun y' w' => y' = (false, ()) ∧ At w0 w' b db (S2.commit n).1) ?_ (fun J hJ => ?_)
    rotate_left
    · refine splitW_f (by rfl) ?_
      rw [str_beq]
      refine splitW_f (by rw [decide_eq_true rfl]; rfl) (splitW_f (by rfl) (splitW_f (bne_eq_false_iff_eq.2 rfl) (splitW_f (by rfl) (splitW_f (by rw [decide_eq_true rfl]; rfl) ?_))))
      refine new_i fun r29 w7 hb7 he7 hr7 _ => ?_
      refine callW_of (at_audit1 (h5.ext he7) hP.good (by exact hb7)) ?_
      rintro _ w8 ⟨rfl, he8⟩
      refine ⟨_, rfl, splitW_f (by rfl) ?_⟩
      refine callW_of (at_commit ((h5.ext he7).ext he8) hg2 (root := n) (.inr hu) hgen2 (by omega)) ?_
      rintro _ w9 ⟨rfl, _, h9⟩
      exact ⟨_, rfl, hJ _ _ ⟨rfl, h9⟩⟩
    rintro y' w7 ⟨rfl, h7⟩
    refine splitW_f (by rfl) ?_
    refine callW_of (at_open h7 c2) ?_
    rintro _ w8 ⟨b', rfl, h8, he8, _⟩
    refine ⟨(some ⟨b', 0, none⟩, 0, ()), rfl, splitW_f (by rfl) ?_⟩
    dsimp only
    have eS : ({ (S2.commit n).1 with now := (S2.commit n).1.held, mark := none } : Spa) = (S2.commit n).1 := by rw [c1]
    rw [eS] at h8
    have er : (S2.commit n).1.sup.root = n := by rw [c1]; rfl
    have hr3 : (S2.commit n).1.r0 = S2.r0 := by rw [c1]; rfl
    have hkids : kidsP S2.page n = ks := by unfold kidsP; rw [hP.blob.idx]
    have hb3 : BlobPg (S2.commit n).1 n acc ks := hP.blob.keep hr3 (fun k hk => by
      rcases hk with rfl | hk
      · exact c4 _ hu
      · exact c4 k ((hP.good.well.good n hu).2 k (by rw [hkids]; exact hk)))
    have hbl3 := hb3.blob c2.good (c2.good.well.root n List.mem_cons_self)
    have root3 : ∀ {w' : World}, At w0 w' b' db (S2.commit n).1 → Calls Tryz.prog 27 #[.pointer (some ⟨b', 0, none⟩)] w' (Ret fun v w'' => v = .int .u32 (n : Int) ∧ w'' = w') := fun hh => by
      have := at_root hh
      rw [er] at this
      exact this
    refine callW_of (root3 h8) ?_
    rintro _ w9 ⟨rfl, hw9⟩
    refine ⟨_, rfl, ?_⟩
    rw [hw9]
    refine callW_of (at_get h8 hn32 (hbl3.plen c2.good.dims)) ?_
    rintro _ w10 ⟨rfl, he10⟩
    refine ⟨((bgetS (S2.commit n).1 n).1, (bgetS (S2.commit n).1 n).2, ()), rfl, ?_⟩
    rw [hbl3.get (by rw [hr3]; exact hr1)]
    refine splitW_t (by rfl) ?_
    rw [str_beq]
    refine splitW_t (by rw [decide_eq_true rfl]) ?_
    have h10 := h8.ext he10
    refine callW_of (root3 h10) ?_
    rintro _ w11 ⟨rfl, hw11⟩
    refine ⟨_, rfl, ?_⟩
    rw [hw11]
    refine callW_of (at_drop h10 c2.good) ?_
    rintro _ w12 ⟨rfl, c', hd, hg3, hle, h12⟩
    refine ⟨_, rfl, splitW_t (by rfl) ?_⟩
    refine callW_of (at_audit0 h12 hg3) ?_
    rintro _ w13 ⟨rfl, he13⟩
    exact ⟨_, rfl, rfl, h12.x.trans he13⟩
  · refine ⟨(0, 9, ()), rfl, splitW_t (by rfl) (splitW_f (by rfl) (splitW_t (by rfl) ?_))⟩
    refine bad h2 g2 ?_
    unfold Spa.freeN Spa.freeL Spa.isFree Spa.N
    rw [e1, e2, e3, e4]
theorem At.pre {w w0 w' : World} {b db : Nat} {S : Spa} (he : Ext w w0) (h : At w0 w' b db S) : At w w' b db S := by
  obtain ⟨F, h1, h2, h3⟩ := h
  exact ⟨F, h1, fun k hk => Nat.le_trans he.size (h2 k hk), he.trans h3⟩
theorem byte_blk {w : World} {r : Nat} {c : Int} {t : TypeId} (h : Blk w r [.int .u8 c] t) (h0 : 0 ≤ c) (h1 : c < 256) : ∃ u : UInt8, c = (u.toNat : Int) ∧ Sl w (some ⟨r, 0, none⟩) 1 (bV [u]) := by
  refine ⟨UInt8.ofNat c.toNat, ?_, ?_⟩
  · have : (UInt8.ofNat c.toNat).toNat = c.toNat := by simp; omega
    omega
  · have e : ((UInt8.ofNat c.toNat).toNat : Int) = c := by
      have : (UInt8.ofNat c.toNat).toNat = c.toNat := by simp; omega
      omega
    have hb : [Value.int .u8 c] = bV [UInt8.ofNat c.toNat] := by show _ = [Value.int .u8 ((UInt8.ofNat c.toNat).toNat : Int)]; rw [e]
    rw [hb] at h
    exact Sl.of_blk h rfl (by omega)
theorem pick3000 (n : Int) : 0 ≤ pick n 3000 ∧ pick n 3000 < 3000 := by
  unfold pick
  rw [if_neg (by omega)]
  omega
theorem bback_calls (w : World) (size blocks : Int) (bs : ByteArray) (c n : Int) (hc0 : 0 ≤ c) (hc1 : c < 256) (hn0 : -9223372036854775808 ≤ n) (hn1 : n < 9223372036854775808) :
    Calls Tryz.prog 6 #[.agg #[.int .i64 size, .int .i64 blocks], .string bs, .int .u8 c, .int .i64 n] w (Ret fun v w' => v = .bool true ∧ Ext w w') := by
  apply calls6
  unfold S6
  refine new_i fun r1 w1 hb1 he1 hr1 _ => ?_
  refine callW_of (lives_calls w1) ?_
  rintro _ w2 ⟨rfl, he2⟩
  refine ⟨_, rfl, splitW_f (by rfl) ?_⟩
  refine boxA (ls := [.int .i64, .int .i64]) (size, blocks, ()) (hb1.ext he2) rfl ?_
  have he02 := he1.trans he2
  refine callW_of ((made_calls w2 size blocks)) ?_
  rintro _ w3 hmd
  obtain ⟨p, q, rfl, he3, hq⟩ : ∃ p q : Option Addr, _ = Value.tuple #[.pointer p, .pointer q] ∧ Ext w2 w3 ∧ (q = none ∨ (geoOK size blocks = true ∧ chk (fmtS size blocks.toNat) = 0 ∧ ∃ db b, p = some ⟨db, 0, none⟩ ∧ q = some ⟨b, 0, none⟩ ∧ At w2 w3 b db (formatS (dev0 size blocks)))) := by
    rcases hmd with ⟨p, e, he⟩ | ⟨h1, h2, db, b, e, hat⟩
    · exact ⟨p, none, e, he, .inl rfl⟩
    · exact ⟨_, _, e, hat.x, .inr ⟨h1, h2, db, b, rfl, rfl, hat⟩⟩
  clear hmd
  refine ⟨(p, q, ()), rfl, ?_⟩
  have he03 := he02.trans he3
  refine boxA (ls := [.int .i64, .int .i64]) (size, blocks, ()) ((hb1.ext he2).ext he3) rfl ?_
  refine callW_of (lightgeo_calls w3 size blocks) ?_
  rintro _ w4 ⟨rfl, he4⟩
  refine ⟨_, rfl, ?_⟩
  have he04 := he03.trans he4
  refine splitW_i (fun _ => ⟨rfl, he04⟩) (fun hlg => ?_)
  refine splitW_i (fun _ => ⟨rfl, he04⟩) (fun hbs => ?_)
  have hbs := of_decide_eq_false hbs
  rcases hq with rfl | ⟨hgeo, hchk, db, b, rfl, rfl, hat⟩
  · exact splitW_t (by rfl) ⟨rfl, he04⟩
  refine splitW_f (by rfl) ?_
  have h4 := (At.pre he02 hat).ext he4
  obtain ⟨_, hG, hpen⟩ := great_format (devG0 hgeo) hchk
  dsimp only
  refine draw_i fun w5 he5 _ _ => ?_
  have h5 := h4.ext he5
  have hpk := pick3000 n
  have tail : ∀ (u : UInt8) (w6 : World), Ext w5 w6 → (((bs.size + (mkB (timesL [u] (pick n 3000).toNat)).size : Nat) : Int) ≤ IntKind.i64.max) ∧ BbT db b (bs ++ mkB (timesL [u] (pick n 3000).toNat)) (fun v w' => v = .bool true ∧ Ext w w') w6 := by
    intro u w6 he6
    have hsz : (mkB (timesL [u] (pick n 3000).toNat)).size = (pick n 3000).toNat := by rw [mkB_size, timesL_length]; simp
    exact ⟨by rw [hsz]; show ((bs.size + (pick n 3000).toNat : Nat) : Int) ≤ 9223372036854775807; omega, bb_tail (h5.ext he6) hG hpen rfl (bs ++ mkB (timesL [u] (pick n 3000).toNat)) (by rw [ByteArray.size_append, hsz]; omega)⟩
  have conv : ∀ {r : Nat} {w6 : World} {K : ByteArray → WP}, Blk w6 r [.int .u8 c] 5 → (∀ u : UInt8, K ⟨([u] : List UInt8).toArray⟩ w6) → runW Tryz.prog (Go.convert 58 9 (.slice (some (⟨r, 0, none⟩ : Addr)) 1 1)) .str K w6 := by
    intro r w6 K hb hK
    obtain ⟨u, _, hs⟩ := byte_blk hb hc0 hc1
    exact conv_str (e := 5) (by kernel_rfl) (by kernel_rfl) (by kernel_rfl) hs (hK u)
  have tm : ∀ (u : UInt8) (w6 : World), Calls Tryz.prog 14 #[.string ⟨([u] : List UInt8).toArray⟩, .int .i64 (pick n 3000)] w6 (Ret fun v w' => v = .string (mkB (timesL [u] (pick n 3000).toNat)) ∧ w' = w6) := by
    intro u w6
    refine (times_calls w6 ⟨([u] : List UInt8).toArray⟩ (n := pick n 3000) (by omega) ?_ ?_).mono (Ret.mono ?_)
    · rw [B_mk]; show 1 * (pick n 3000).toNat ≤ _; omega
    · rw [B_mk]; show 1 ≤ 4000000000000000000; decide
    · rintro v w' ⟨rfl, rfl⟩
      rw [B_mk]
      exact ⟨rfl, rfl⟩
  have pk : ∀ (w6 : World), Calls Tryz.prog 19 #[.int .i64 n, .int .i64 3000] w6 (Ret fun v w' => v = .int .i64 (pick n 3000) ∧ w' = w6) := fun w6 => pick_calls w6 hn0 hn1 (by omega)
  refine ⟨?_, ?_⟩
  · refine new_i fun r7 w6 hb6 he6 hr6 _ => ⟨?_, ?_⟩
    · refine conv (by exact hb6) (fun u => ?_)
      refine callW_of (pk w6) ?_
      rintro _ w7 ⟨rfl, hw7⟩
      refine ⟨_, rfl, ?_⟩
      rw [hw7]
      refine callW_of (tm u w6) ?_
      rintro _ w8 ⟨rfl, hw8⟩
      refine ⟨_, rfl, ?_⟩
      rw [hw8]
      exact tail u w6 he6
    · refine callW_of (pk w6) ?_
      rintro _ w7 ⟨rfl, hw7⟩
      refine ⟨_, rfl, ?_⟩
      rw [hw7]
      refine conv (by exact hb6) (fun u => ?_)
      refine callW_of (tm u w6) ?_
      rintro _ w8 ⟨rfl, hw8⟩
      refine ⟨_, rfl, ?_⟩
      rw [hw8]
      exact tail u w6 he6
  · refine callW_of (pk w5) ?_
    rintro _ w7 ⟨rfl, hw7⟩
    refine ⟨_, rfl, ?_⟩
    rw [hw7]
    refine new_i fun r7 w6 hb6 he6 hr6 _ => ?_
    refine conv (by exact hb6) (fun u => ?_)
    refine callW_of (tm u w6) ?_
    rintro _ w8 ⟨rfl, hw8⟩
    refine ⟨_, rfl, ?_⟩
    rw [hw8]
    exact tail u w6 he6
end Go.Proofs.YtcjobbcijbkjkaaGreat.V
