/- Texts of mine, merged (wip/tool/mergep.py): Great2, BlobP, Great3, KAt2, KMark, KGreat, DecAct, Run, Inv, DoC, GoodE, L, LA, LK, LR, Spx, LN, DecCounts, DecSuper, DecPage. -/
import Derived.Test.YtjdmggaeagnolaaGreatM4
import Derived.Test.YtjdmggaeagnolaaGreatM2
import Derived.Test.YtjdmggaeagnolaaGreatM1
import Derived.Test.YtjdmggaeagnolaaGreatChecked
import Derived.Test.YtjdmggaeagnolaaGreatM3
/- Spaces that are well: Commit, Format, Mark, Back, Done, Share, Drop: plain. -/
set_option linter.unusedVariables false
set_option linter.unusedSimpArgs false
namespace Go.Proofs.YtjdmggaeagnolaaGreat.V
open Go Go.Proofs Go.RowKit Crc
theorem WellC.swap {N : Nat} {ps ps' : List Nat} {pg pg' : PgF} {c c' R : List Nat} (h : WellC N ps pg c R) (hl : c'.length = N) (hh : c'.getD 0 0 = 1 ∧ c'.getD 1 0 = 1) (hps : ∀ p ∈ ps', 2 ≤ p ∧ p < N ∧ c'.getD p 0 = 1)
    (hu : ∀ n, usedC ps' c' n = usedC ps c n) (hpg : ∀ n, usedC ps c n = true → pg' n = pg n) (hc : ∀ n, 2 ≤ n → n ∉ ps' → c'.getD n 0 = if n ∈ ps then 0 else c.getD n 0) : WellC N ps' pg' c' R := by
  have hs : ∀ x, sumC N ps' pg' c' x = sumC N ps pg c x := by
    intro x
    unfold sumC
    congr 1
    apply List.map_congr_left
    intro m _
    unfold refC
    rw [hu m]
    by_cases hm : usedC ps c m = true
    · rw [if_pos hm, if_pos hm, kidsP, hpg m hm]
    · rw [if_neg hm, if_neg hm]
  refine ⟨hl, h.two, hh, hps, fun n hn => by rw [hu]; exact h.root n hn, fun n hn => ?_, ?_, fun n h2 hn => ?_⟩
  · rw [hu] at hn
    rw [kidsP, hpg n hn]
    exact ⟨(h.good n hn).1, fun k hk => by rw [hu]; exact (h.good n hn).2 k hk⟩
  · obtain ⟨r, hr⟩ := h.rank
    refine ⟨r, fun n hn k hk => ?_⟩
    rw [hu] at hn
    rw [kidsP, hpg n hn] at hk
    exact hr n hn k hk
  · rw [hs, hc n h2 hn]
    by_cases hp : n ∈ ps
    · rw [if_pos hp]
      have hnu : ∀ k, usedC ps c k = true → k ≠ n := fun k hk e => (usedC_iff.1 hk).2.1 (e ▸ hp)
      have h1 : R.count n = 0 := List.count_eq_zero.2 (fun hm => hnu n (h.root n hm) rfl)
      have h2 : sumC N ps pg c n = 0 := by
        unfold sumC
        rw [sum_congr (g := fun _ => 0) (fun m _ => ?_)]
        · exact sum_zeros _
        · unfold refC
          split
          · rename_i hm
            exact List.count_eq_zero.2 (fun hk => hnu n ((h.good m hm).2 n hk) rfl)
          · rfl
      omega
    · rw [if_neg hp]
      exact h.sum n h2 hp
theorem other_two {s : Int} (h : s = 0 ∨ s = 1) : (other s = 0 ∨ other s = 1) ∧ other (other s) = s ∧ other s ≠ s := by
  rcases h with rfl | rfl <;> decide
theorem great_commit {S : Spa} {R H : List Nat} {M : Option (List Nat)} (h : Great S R H M) {root : Nat} (hroot : root = 0 ∨ usedC S.sup.pages S.now root = true) (hgen : S.sup.gen + 1 < 1000000000000) (hfit : ∀ n, S.now.getD n 0 < 65536) :
    S.commit root = (⟨(S.comD root).1, S.next root, other S.slot, S.comC, S.comC, none⟩, 0) ∧ Great (S.commit root).1 R R none ∧ (S.comD root).1.pen = [] ∧ (∀ k, usedC S.sup.pages S.now k = true → (S.commit root).1.page k = S.page k) ∧ S.comE root = 0 ∧ chk (S.next root) = 0 ∧ (S.next root).Fits := by
  have hg := h.good
  have ho := h.heldOK
  have hP := ho.pgsOk hg
  have hdim := hg.dims
  have hN := hdim.n
  have hbl := hdim.blocks
  have hlen := hg.ok.now
  have hsz := hg.ok.size
  have hsb := hg.ok.blocks
  obtain ⟨⟨c1, c2, c3, c4⟩, c5, c6⟩ := chk_ok ho.chk
  have hnl : S.ns.length = S.sup.pages.length := by have := h.room; unfold Spa.ns; rw [List.length_take]; unfold Spa.freeN at this; omega
  have hnsm : ∀ k ∈ S.ns, k < S.N ∧ 2 ≤ k ∧ S.now.getD k 0 = 0 ∧ k ∉ S.sup.pages := fun k hk => by
    obtain ⟨a1, a2, a3⟩ := ns_free hk
    have a4 := (isFree_iff.1 a3).1
    exact ⟨a1, a2, a4, fun e => by have := (hP.at_ k e).2.2; omega⟩
  have hE : S.comE root = 0 := by
    unfold Spa.comE
    have hroot' : root ≠ 0 → S.asked root = true ∧ S.now.getD root 0 ≠ 0 := fun hr => by
      rcases hroot with e | e
      · exact absurd e hr
      · have := used_asked hg e
        exact ⟨this.1, this.2.1⟩
    rw [if_neg (fun hh => by rw [(hroot' hh.1).1] at hh; cases hh.2), if_neg (fun hh => (hroot' hh.1).2 hh.2), if_neg (by have := h.room; omega)]
  have hrootlt : root < S.N := by
    rcases hroot with e | e
    · omega
    · exact (used_asked hg e).2.2
  have hff : (S.next root).Fits := ⟨by show S.sup.gen + 1 < _; omega, hg.ok.fits.size, hg.ok.fits.blocks, by show root < _; omega, fun p hm => by have := (hnsm p hm).1; omega⟩
  have hchk : chk (S.next root) = 0 := by
    rw [chk_long]
    · show (if 14 + 4 * (S.ns.length : Int) > roomOf S.sup.size then (3 : Int) else 0) = 0
      rw [hnl, if_neg (by omega)]
    · refine ⟨c1, (show S.sup.gen + 1 ≠ 0 by omega), ?_, (show (S.ns.length : Int) = pagesOf S.sup.size S.sup.blocks by rw [hnl]; exact c4)⟩
      rcases hroot with e | e
      · exact .inl e
      · right
        have := (usedC_iff.1 e).1
        show pageOK S.sup.blocks root = true
        unfold pageOK
        rw [decide_eq_true]
        exact ⟨this, by omega⟩
    · intro j hj
      have hj : j < S.ns.length := hj
      have eg : (S.next root).pages.getD j 0 = S.ns[j] := by show S.ns.getD j 0 = _; rw [List.getD_eq_getElem?_getD, List.getElem?_eq_getElem hj]; rfl
      obtain ⟨a1, a2, a3, a4⟩ := hnsm _ (List.getElem_mem hj)
      refine ⟨?_, ?_, ?_⟩
      · rw [eg]
        show pageOK S.sup.blocks _ = true
        unfold pageOK
        rw [decide_eq_true]
        exact ⟨a2, by omega⟩
      · rw [eg]
        show S.ns[j] ≠ root
        intro e
        rcases hroot with e2 | e2
        · omega
        · have := (usedC_iff.1 e2).2.2
          rw [e] at a3
          omega
      · rw [eg]
        intro hm
        have hnd := ns_nodup S
        rw [← List.take_append_drop j S.ns, List.drop_eq_getElem_cons hj, List.nodup_append] at hnd
        exact hnd.2.2 _ hm _ List.mem_cons_self rfl
  obtain ⟨o1, o2, o3⟩ := other_two ho.slot
  have hps : ∀ p ∈ (S.next root).pages, 2 ≤ p ∧ (p : Int) < S.dev.blocks := fun p hp => by have := hnsm p hp; rw [← hsb, hbl]; omega
  have hcl := comC_length S
  obtain ⟨k1, k2, k3, k4⟩ := commit_good (d := S.dev) ⟨hg.dev, hg.fuse⟩ (c := S.comC) (s := S.next root) (slot := other S.slot) hchk hsz hps o1
  obtain ⟨r1, r2, r3⟩ := commit_reads (d := S.dev) ⟨hg.dev, hg.fuse⟩ (c := S.comC) (s := S.next root) (slot := other S.slot) hchk hsz hps (ns_nodup S) o1 (by show S.ns.length = _; rw [hnl, hP.len, hcl, hlen, hsz])
  have dm := commitD_dim S.dev S.comC (S.next root) (other S.slot)
  have eD : S.comD root = commitD S.dev S.comC (S.next root) (other S.slot) := rfl
  have eC : S.commit root = (⟨(S.comD root).1, S.next root, other S.slot, S.comC, S.comC, none⟩, 0) := by
    unfold Spa.commit
    rw [if_neg (fun hh => hh hE), if_neg (fun hh => hh k1)]
  have hpage : ∀ k, usedC S.sup.pages S.now k = true → (S.commit root).1.page k = S.page k := by
    intro k hk
    rw [eC]
    have hkN := (used_asked hg hk).2.2
    obtain ⟨a1, a2, a3⟩ := usedC_iff.1 hk
    show pageR S.N (B ((S.comD root).1.read k).1) = pageR S.N (B (S.dev.read k).1)
    rw [eD, r2 (k : Int) (by omega) (by rw [← hsb, hbl]; omega) (by omega) (fun p hp e => by
      have := (hnsm p hp).2.2.1
      have e : p = k := by omega
      subst e
      omega)]
  have hget := comC_get hlen hP
  have hu : ∀ k, usedC S.ns S.comC k = usedC S.sup.pages S.now k := by
    intro k
    rw [Bool.eq_iff_iff, usedC_iff, usedC_iff, hget k]
    by_cases hp : k ∈ S.sup.pages
    · simp [hp]
    · rw [if_neg hp]
      by_cases hn : k ∈ S.ns
      · have := (hnsm k hn).2.2.1
        simp only [hn, not_true_eq_false, false_and, and_false, hp, not_false_eq_true, true_and, false_iff, not_and]
        intro _; omega
      · rw [if_neg hn]; simp [hn, hp]
  have hw : WellC S.N S.ns (S.commit root).1.page S.comC R := by
    refine WellC.swap hg.well (hcl.trans hlen) ?_ (fun p hp => ?_) hu hpage (fun n h2 hn => ?_)
    · have hd := hg.well.head
      rw [hget, hget, if_neg (fun e => by have := (hP.at_ 0 e).1; omega), if_neg (fun e => by have := (hnsm 0 e).2.1; omega), if_neg (fun e => by have := (hP.at_ 1 e).1; omega), if_neg (fun e => by have := (hnsm 1 e).2.1; omega)]
      exact hd
    · obtain ⟨a1, a2, a3, a4⟩ := hnsm p hp
      exact ⟨a2, a1, by rw [hget, if_neg a4, if_pos hp]⟩
    · rw [hget, if_neg hn]
  rw [eC] at hw hpage
  refine ⟨eC, ?_, k3, by rw [eC]; exact hpage, hE, hchk, hff⟩
  rw [eC]
  refine ⟨⟨⟨?_, ?_, hff, ?_, ?_, fun l hl => by cases hl⟩, k2.ok, k2.fuse, hgen, hw⟩, ⟨o1, hchk, ?_, ?_, ?_, ?_⟩, hw, trivial, ?_⟩
  · show S.sup.size = (S.comD root).1.size
    rw [eD, dm.1]; exact hsz
  · show S.sup.blocks = (S.comD root).1.blocks
    rw [eD, dm.2]; exact hsb
  · show S.comC.length = S.N
    rw [hcl, hlen]
  · show S.comC.length = S.N
    rw [hcl, hlen]
  · show getS (B ((S.comD root).1.read (other S.slot)).1) = _
    rw [eD, r1, B_mkB]
    exact getS_put hff (by rw [putS_good hchk])
  · right
    show (getS (B ((S.comD root).1.read (other (other S.slot))).1)).1.gen < S.sup.gen + 1
    rw [o2, eD, r2 S.slot (by have := ho.slot; omega) (by rw [← hsb, hbl]; have := ho.slot; have := hg.well.two; omega) (fun e => o3 e.symm) (fun p hp => by have := (hnsm p hp).2.1; have := ho.slot; omega), ho.cur]
    show S.sup.gen < _
    omega
  · intro i hi
    have hi : i < S.ns.length := hi
    show ((S.comD root).1.read ((S.ns.getD i 0 : Nat) : Int)).1 = mkB (putB (S.comD root).1.size.toNat (2, S.sup.gen + 1, (pagesL S.comC (perOf (S.comD root).1.size)).getD i ByteArray.empty))
    rw [eD, dm.1]
    exact r3 i hi
  · intro c hc
    obtain ⟨i, hi, e⟩ := List.mem_iff_getElem.1 hc
    have e : S.comC.getD i 0 = c := by rw [List.getD_eq_getElem?_getD, List.getElem?_eq_getElem hi]; exact e
    rw [← e, hget]
    have := hfit i
    split
    · omega
    · split <;> omega
  · show S.ns.length ≤ List.length _
    rw [hnl]
    refine nodup_sub hP.nodup (fun p hp => ?_)
    obtain ⟨a1, a2, a3⟩ := hP.at_ p hp
    refine freeL_mem.2 ⟨a2, a1, isFree_iff.2 ⟨?_, ?_, rfl⟩⟩
    · show S.comC.getD p 0 = 0
      rw [hget, if_pos hp]
    · show S.comC.getD p 0 = 0
      rw [hget, if_pos hp]
/-! ### Format -/
theorem fmtN_le2 {size : Int} {N : Nat} (h : geoOK size N = true) : 2 * fmtN size N + 2 ≤ N := by
  obtain ⟨h8, n, hn, h1, h2⟩ := geo8 h
  obtain rfl : N = n := by omega
  obtain ⟨hp1, hp2, _⟩ := perOf_spec h8
  have hx : cutsN N (perOf size) ≤ (N + 55) / 56 := by
    unfold cutsN
    rw [Nat.div_le_iff_le_mul_add_pred (by omega)]
    have h3 : N + 55 < 56 * ((N + 55) / 56 + 1) := Nat.lt_mul_div_succ _ (by omega)
    have h4 : 56 * ((N + 55) / 56) ≤ perOf size * ((N + 55) / 56) := Nat.mul_le_mul_right _ hp1
    omega
  unfold fmtN
  omega
theorem getS_zero (n : Nat) : (getS (B (zeroB n))).2 ≠ 0 := by
  intro h
  obtain ⟨h1, h2⟩ := getS_ok h
  have hc := putS_ok (s := (getS (B (zeroB n))).1) (by rw [h1])
  rw [putS_good hc] at h1
  injection h1 with h1 _
  have h3 : (B (zeroB n)).getD 0 0 = 0 := by
    unfold zeroB
    have : ∀ k : Nat, (List.replicate k (0 : UInt8)).getD 0 0 = 0 := fun k => by cases k <;> rfl
    first
      | (rw [B_mk]; exact this _)
      | (rw [B_mkB]; exact this _)
  rw [← h1] at h3
  have h4 : (putB (getS (B (zeroB n))).1.size.toNat (fraS (getS (B (zeroB n))).1)).getD 0 0 = 1 := by
    unfold putB bodyB headB
    rfl
  rw [h4] at h3
  cases h3
theorem great_format {d : Dev} (h : DevG d) (hchk : chk (fmtS d.size d.blocks.toNat) = 0) : (formatD d).2 = 0 ∧ Great (formatS d) [] [] none ∧ (formatS d).dev.pen = [] := by
  obtain ⟨g1, g2, g3⟩ := format_good h hchk
  refine ⟨g1, ?_, g3⟩
  obtain ⟨z, N, e1, e2, e3, e4, e5, e6, e7, e8⟩ := h.ok.facts
  have hN : d.blocks.toNat = N := by omega
  have hg : geoOK d.size (N : Int) = true := by rw [← e2]; exact h.ok.geo
  obtain ⟨n1, n2, n3⟩ := fmtN_le hg
  have n4 := fmtN_le2 hg
  rw [hN] at hchk
  have hz : (((zeroB d.size.toNat).size : Nat) : Int) = d.size := by rw [zeroB_size]; omega
  have h1 : 0 ≤ (1 : Int) ∧ (1 : Int) < d.blocks := by omega
  obtain ⟨q1, q2, q3⟩ := write_ok h.ok h1 hz h.fuse
  have hw0 := (read_write h.ok h1 hz (by rw [h.fuse]; decide) h1).1
  have hw1 := (read_write h.ok h1 hz (by rw [h.fuse]; decide) h1).2
  have hwd := write_dim d 1 (zeroB d.size.toNat)
  have hpm : ∀ p, p ∈ fmtP (fmtN d.size N) ↔ 2 ≤ p ∧ p < 2 + fmtN d.size N := fun p => by
    unfold fmtP
    constructor
    · intro hp
      obtain ⟨i, hi, rfl⟩ := List.mem_map.1 hp
      have := List.mem_range.1 hi
      omega
    · intro hp
      exact List.mem_map.2 ⟨p - 2, List.mem_range.2 (by omega), by omega⟩
  have hnd : (fmtP (fmtN d.size N)).Nodup := by
    unfold fmtP
    rw [List.nodup_iff_pairwise_ne, List.pairwise_map]
    exact List.Pairwise.imp (fun hab e => by omega) List.pairwise_lt_range
  have hfl := fmtC_length (N := N) (np := fmtN d.size N) n1
  obtain ⟨r1, r2, r3⟩ := commit_reads (d := (d.write 1 (zeroB d.size.toNat)).1) ⟨q1, q2⟩ (c := fmtC N (fmtN d.size N)) (s := fmtS d.size N) (slot := 0) hchk hwd.1.symm (fun p hp => by have := (hpm p).1 hp; rw [hwd.2.1]; omega) hnd (.inl rfl) (by rw [hwd.1, hfl]; exact fmtP_length _)
  have eD : formatD d = commitD (d.write 1 (zeroB d.size.toNat)).1 (fmtC N (fmtN d.size N)) (fmtS d.size N) 0 := by
    unfold formatD
    rw [hN, if_neg (fun hh => hh hchk), if_neg (fun hh => hh hw0)]
  have dm := commitD_dim (d.write 1 (zeroB d.size.toNat)).1 (fmtC N (fmtN d.size N)) (fmtS d.size N) 0
  have eS : formatS d = ⟨(formatD d).1, fmtS d.size N, 0, fmtC N (fmtN d.size N), fmtC N (fmtN d.size N), none⟩ := by unfold formatS; rw [hN]
  rw [eS] at g2 ⊢
  refine ⟨g2, ⟨.inl rfl, hchk, ?_, .inl ?_, ?_, ?_⟩, g2.well, trivial, ?_⟩
  · show getS (B ((formatD d).1.read 0).1) = _
    rw [eD, r1, B_mkB]
    exact getS_put (fmtS_fits hg) (by rw [putS_good hchk])
  · show (getS (B ((formatD d).1.read 1).1)).2 ≠ 0
    rw [eD, r2 1 (by omega) (by rw [hwd.2.1]; omega) (by omega) (fun p hp => by have := (hpm p).1 hp; omega), hw1, if_pos rfl]
    exact getS_zero _
  · intro i hi
    show ((formatD d).1.read (((fmtP (fmtN d.size N)).getD i 0 : Nat) : Int)).1 = mkB (putB (formatD d).1.size.toNat ((2 : UInt8), 1, (pagesL (fmtC N (fmtN d.size N)) (perOf (formatD d).1.size)).getD i ByteArray.empty))
    rw [eD, dm.1]
    exact r3 i hi
  · intro c hc
    have hc : c ∈ fmtC N (fmtN d.size N) := hc
    unfold fmtC at hc
    rw [List.mem_append, List.mem_replicate, List.mem_replicate] at hc
    omega
  · show (fmtP (fmtN d.size N)).length ≤ List.length _
    rw [fmtP_length]
    have := nodup_sub (a := (List.range (fmtN d.size N)).map (· + (2 + fmtN d.size N))) (b := Spa.freeL ⟨(formatD d).1, fmtS d.size N, 0, fmtC N (fmtN d.size N), fmtC N (fmtN d.size N), none⟩) ?_ ?_
    · rw [List.length_map, List.length_range] at this
      exact this
    · rw [List.nodup_iff_pairwise_ne, List.pairwise_map]
      exact List.Pairwise.imp (fun hab e => by omega) List.pairwise_lt_range
    · intro k hk
      obtain ⟨i, hi, rfl⟩ := List.mem_map.1 hk
      have := List.mem_range.1 hi
      refine freeL_mem.2 ⟨by show i + (2 + fmtN d.size N) < ((N : Int)).toNat; omega, by omega, isFree_iff.2 ⟨?_, ?_, rfl⟩⟩
      · show (fmtC N (fmtN d.size N)).getD _ 0 = 0
        rw [fmtC_get n1, if_neg (by omega)]
      · show (fmtC N (fmtN d.size N)).getD _ 0 = 0
        rw [fmtC_get n1, if_neg (by omega)]
/-! ### Marks -/
theorem great_mark {S : Spa} {R H : List Nat} {M : Option (List Nat)} (h : Great S R H M) : Great { S with mark := some S.now } R H (some R) := by
  have hd := h.good.ok
  refine ⟨⟨⟨hd.size, hd.blocks, hd.fits, hd.held, hd.now, fun l hl => by cases hl; exact hd.now⟩, h.good.dev, h.good.fuse, h.good.gen, h.good.well⟩, ⟨h.heldOK.slot, h.heldOK.chk, h.heldOK.cur, h.heldOK.old, h.heldOK.pgs, h.heldOK.fit⟩, h.hwell, h.good.well, Nat.le_trans h.room (freeN_mono rfl fun n hn => ?_)⟩
  obtain ⟨f1, f2, f3⟩ := isFree_iff.1 hn
  exact isFree_iff.2 ⟨f1, f2, f1⟩
theorem great_back {S : Spa} {R H m l : List Nat} (h : Great S R H (some m)) (hm : S.mark = some l) : Great { S with now := l, mark := none } m H none := by
  have hd := h.good.ok
  have hw := h.mwell
  rw [hm] at hw
  refine ⟨⟨⟨hd.size, hd.blocks, hd.fits, hd.held, hd.mark l hm, fun l hl => by cases hl⟩, h.good.dev, h.good.fuse, h.good.gen, hw⟩, ⟨h.heldOK.slot, h.heldOK.chk, h.heldOK.cur, h.heldOK.old, h.heldOK.pgs, h.heldOK.fit⟩, h.hwell, trivial, Nat.le_trans h.room (freeN_mono rfl fun n hn => ?_)⟩
  obtain ⟨f1, f2, f3⟩ := isFree_iff.1 hn
  rw [hm] at f3
  exact isFree_iff.2 ⟨f3, f2, rfl⟩
theorem great_done {S : Spa} {R H : List Nat} {M : Option (List Nat)} (h : Great S R H M) : Great { S with mark := none } R H none := by
  have hd := h.good.ok
  refine ⟨⟨⟨hd.size, hd.blocks, hd.fits, hd.held, hd.now, fun l hl => by cases hl⟩, h.good.dev, h.good.fuse, h.good.gen, h.good.well⟩, ⟨h.heldOK.slot, h.heldOK.chk, h.heldOK.cur, h.heldOK.old, h.heldOK.pgs, h.heldOK.fit⟩, h.hwell, trivial, Nat.le_trans h.room (freeN_mono rfl fun n hn => ?_)⟩
  obtain ⟨f1, f2, f3⟩ := isFree_iff.1 hn
  exact isFree_iff.2 ⟨f1, f2, rfl⟩
theorem Great.less {S : Spa} {R R' H : List Nat} {M : Option (List Nat)} {c : List Nat} (h : Great S R H M) (hg : Good { S with now := c } R') (hle : ∀ k, c.getD k 0 ≤ S.now.getD k 0) : Great { S with now := c } R' H M := by
  refine h.setNow hg (Nat.le_trans h.room (freeN_mono rfl fun n hn => ?_))
  obtain ⟨f1, f2, f3⟩ := isFree_iff.1 hn
  exact isFree_iff.2 ⟨by have := hle n; show c.getD n 0 = 0; omega, f2, f3⟩
theorem Great.more {S : Spa} {R R' H : List Nat} {M : Option (List Nat)} {n : Nat} (h : Great S R H M) (hu : usedC S.sup.pages S.now n = true) (hg : Good { S with now := S.now.set n (S.now.getD n 0 + 1) } R') : Great { S with now := S.now.set n (S.now.getD n 0 + 1) } R' H M := by
  refine h.setNow hg (Nat.le_trans h.room (freeN_mono rfl fun k hk => ?_))
  obtain ⟨f1, f2, f3⟩ := isFree_iff.1 hk
  refine isFree_iff.2 ⟨?_, f2, f3⟩
  show (S.now.set n (S.now.getD n 0 + 1)).getD k 0 = 0
  have := (usedC_iff.1 hu).2.2
  rw [getD_setN, if_neg (fun e => by rw [e.1] at this; omega)]
  exact f1
end Go.Proofs.YtjdmggaeagnolaaGreat.V
/- Blobs: plain. -/
set_option linter.unusedVariables false
set_option linter.unusedSimpArgs false
namespace Go.Proofs.YtjdmggaeagnolaaGreat.V
open Go Go.Proofs Go.RowKit Crc
/-- The device holds what it held, but in blocks that were free. -/
structure Kept (S S' : Spa) : Prop where
  sup : S'.sup = S.sup
  held : S'.held = S.held
  mark : S'.mark = S.mark
  slot : S'.slot = S.slot
  dim : S'.dev.size = S.dev.size ∧ S'.dev.blocks = S.dev.blocks
  read : ∀ k : Int, 0 ≤ k → k < S.N → (k.toNat < 2 ∨ S.isFree k.toNat = false) → (S'.dev.read k).1 = (S.dev.read k).1
/-! ### Several Puts -/
structure Puts (S Si : Spa) (R ks : List Nat) (ps : List Page) : Prop where
  good : Good Si (ks ++ R)
  sup : Si.sup = S.sup
  held : Si.held = S.held
  mark : Si.mark = S.mark
  slot : Si.slot = S.slot
  len : ps.length = ks.length
  free : S.freeL = ks ++ Si.freeL
  page : ∀ j, j < ks.length → Si.page (ks.getD j 0) = (ps.getD j page0, 0)
  other : ∀ k, k < S.N → k ∉ ks → Si.page k = S.page k
  now : ∀ k, Si.now.getD k 0 = if k ∈ ks then 1 else S.now.getD k 0
  nlen : Si.now.length = S.now.length
  pen : Si.dev.pen.length = S.dev.pen.length + ks.length
  read : ∀ k : Int, 0 ≤ k → k < S.N → k.toNat ∉ ks → (Si.dev.read k).1 = (S.dev.read k).1
  dim : Si.dev.size = S.dev.size ∧ Si.dev.blocks = S.dev.blocks
theorem Puts.N {S Si : Spa} {R ks : List Nat} {ps : List Page} (h : Puts S Si R ks ps) : Si.N = S.N := by unfold Spa.N; rw [h.sup]
theorem Puts.nil {S : Spa} {R : List Nat} (h : Good S R) : Puts S S R [] [] := ⟨h, rfl, rfl, rfl, rfl, rfl, rfl, fun j hj => absurd hj (Nat.not_lt_zero j), fun _ _ _ => rfl, fun _ => by simp, rfl, rfl, fun _ _ _ _ => rfl, rfl, rfl⟩
theorem Puts.mem {S Si : Spa} {R ks : List Nat} {ps : List Page} (h : Puts S Si R ks ps) {k : Nat} (hk : k ∈ ks) : 2 ≤ k ∧ k < S.N ∧ S.isFree k = true ∧ k ∉ S.sup.pages := by
  have hm : k ∈ S.freeL := by rw [h.free]; exact List.mem_append_left _ hk
  obtain ⟨h1, h2, h3⟩ := freeL_mem.1 hm
  refine ⟨h2, h1, h3, fun hp => ?_⟩
  have hpg := (h.good.well.pgs k (by rw [h.sup]; exact hp)).2.2
  have hu := h.good.well.root k (List.mem_append_left _ hk)
  have := (usedC_iff.1 hu).2.1
  rw [h.sup] at this
  exact this hp
theorem Puts.kept {S Si : Spa} {R ks : List Nat} {ps : List Page} (h : Puts S Si R ks ps) : Kept S Si :=
  ⟨h.sup, h.held, h.mark, h.slot, h.dim, fun k h0 hk hf => h.read k h0 hk (fun hm => by
    obtain ⟨a1, a2, a3, a4⟩ := h.mem hm
    rcases hf with hf | hf
    · omega
    · rw [hf] at a3; cases a3)⟩
theorem Puts.step {S Si : Spa} {R ks : List Nat} {ps : List Page} (h : Puts S Si R ks ps) {t : UInt8} {d : ByteArray} (ht : 3 ≤ t.toNat) (hd : (d.size : Int) ≤ Si.room 0) (hfree : Si.sup.pages.length < Si.freeN) :
    (Si.put (t, [], d)).2.2 = 0 ∧ Puts S (Si.put (t, [], d)).1 R (ks ++ [(Si.put (t, [], d)).2.1]) (ps ++ [(t, [], d)]) := by
  have hdim := h.good.dims
  have hsz := hdim.size
  have hr0 : Si.room 0 = Si.sup.size - 18 := by unfold Spa.room; rw [hdim.room, if_neg (by omega)]; omega
  obtain ⟨h1, h2, h3⟩ := put_good (p := (t, [], d)) (R := ks ++ R) h.good ht (by show (0 : Int) ≤ _; omega) hd hfree
  refine ⟨h1, ?_⟩
  generalize (Si.put (t, [], d)).2.1 = n at *
  generalize (Si.put (t, [], d)).1 = S' at *
  have hnk : n ∉ ks := fun hk => by
    have hf := (isFree_iff.1 h2.free).1
    rw [h.now n, if_pos hk] at hf
    cases hf
  refine ⟨h3.perm ?_, h2.sup.trans h.sup, h2.held.trans h.held, h2.mark.trans h.mark, h2.slot.trans h.slot, by simp [h.len], ?_, fun j hj => ?_, fun k hk hks => ?_, fun k => ?_, ?_, ?_, fun k h0 hk hks => ?_, h2.dim.1.trans h.dim.1, h2.dim.2.trans h.dim.2⟩
  · rw [List.append_assoc]
    exact List.perm_middle.symm
  · rw [h.free, h2.freeL, List.append_assoc, List.singleton_append]
  · rw [List.length_append, List.length_singleton] at hj
    by_cases hjl : j < ks.length
    · rw [show (ks ++ [n]).getD j 0 = ks.getD j 0 by rw [List.getD_eq_getElem?_getD, List.getElem?_append_left hjl, ← List.getD_eq_getElem?_getD], show (ps ++ [((t, [], d) : Page)] : List Page).getD j page0 = ps.getD j page0 by rw [List.getD_eq_getElem?_getD, List.getElem?_append_left (by rw [h.len]; exact hjl), ← List.getD_eq_getElem?_getD]]
      have hmem : ks.getD j 0 ∈ ks := by rw [List.getD_eq_getElem?_getD, List.getElem?_eq_getElem hjl]; exact List.getElem_mem hjl
      rw [h2.other _ (fun e => hnk (e ▸ hmem)) (by rw [h.N]; exact (h.mem hmem).2.1), h.page j hjl]
    · obtain rfl : j = ks.length := by omega
      rw [show (ks ++ [n]).getD ks.length 0 = n by simp, show (ps ++ [((t, [], d) : Page)] : List Page).getD ks.length page0 = (t, [], d) by rw [← h.len]; simp]
      exact h2.page
  · simp only [List.mem_append, List.mem_singleton, not_or] at hks
    rw [h2.other k hks.2 (by rw [h.N]; exact hk), h.other k hk hks.1]
  · rw [h2.now, getD_setN, h.now k]
    have hnl : n < Si.now.length := by have := h2.lt; rw [h.good.ok.now]; exact this
    by_cases hkn : n = k
    · subst hkn
      rw [if_pos ⟨rfl, hnl⟩, if_pos (by simp)]
    · rw [if_neg (fun e => hkn e.1)]
      by_cases hk : k ∈ ks
      · rw [if_pos hk, if_pos (List.mem_append_left _ hk)]
      · rw [if_neg hk, if_neg (fun e => by rcases List.mem_append.1 e with e | e; exact hk e; exact hkn (List.mem_singleton.1 e).symm)]
  · rw [h2.now, List.length_set]; exact h.nlen
  · rw [h2.pen, h.pen, List.length_append, List.length_singleton]; omega
  · simp only [List.mem_append, List.mem_singleton, not_or] at hks
    rw [h2.read k h0 (by rw [h.N]; exact hk) (by omega), h.read k h0 hk hks.1]
def part (r : Nat) (b : ByteArray) (i : Nat) : ByteArray := b.extract (i * r) (min b.size ((i + 1) * r))
def Spa.r0 (S : Spa) : Nat := (S.room 0).toNat
end Go.Proofs.YtjdmggaeagnolaaGreat.V
/- Spaces that are well, and blobs; what may have changed is told by Kept: plain. -/
set_option linter.unusedVariables false
set_option linter.unusedSimpArgs false
namespace Go.Proofs.YtjdmggaeagnolaaGreat.V
open Go Go.Proofs Go.RowKit Crc
theorem Great.kept {S S' : Spa} {R R' H : List Nat} {M : Option (List Nat)} (h : Great S R H M) (hk : Kept S S') (hg : Good S' R') (hr : S.sup.pages.length ≤ S'.freeN) : Great S' R' H M := by
  have hN : S'.N = S.N := by unfold Spa.N; rw [hk.sup]
  have hn := h.good.dims.n
  have h2 := h.good.well.two
  have ho := h.heldOK
  have hslot : ∀ j : Int, j = 0 ∨ j = 1 → (S'.dev.read j).1 = (S.dev.read j).1 := fun j hj => hk.read j (by omega) (by omega) (.inl (by omega))
  have hpage : ∀ k, k < S.N → S.isFree k = false → S'.page k = S.page k := fun k hkN hf => by
    unfold Spa.page
    rw [hN, hk.read (k : Int) (by omega) (by omega) (.inr (by rw [Int.toNat_natCast]; exact hf))]
  have nofree : ∀ k, (S.now.getD k 0 ≠ 0 ∨ S.held.getD k 0 ≠ 0 ∨ cnt S.mark k ≠ 0) → S.isFree k = false := fun k hh => by
    cases hq : S.isFree k with
    | false => rfl
    | true =>
      obtain ⟨f1, f2, f3⟩ := isFree_iff.1 hq
      rcases hh with e | e | e
      · exact absurd f1 e
      · exact absurd f2 e
      · exact absurd f3 e
  refine ⟨hg, ⟨?_, ?_, ?_, ?_, ?_, ?_⟩, ?_, ?_, by rw [hk.sup]; exact hr⟩
  · rw [hk.slot]; exact ho.slot
  · rw [hk.sup]; exact ho.chk
  · rw [hk.slot, hk.sup, hslot _ ho.slot]; exact ho.cur
  · rw [hk.slot, hk.sup, hslot _ (by unfold other; split <;> simp)]; exact ho.old
  · intro i hi
    rw [hk.sup] at hi ⊢
    have hm : S.sup.pages.getD i 0 ∈ S.sup.pages := by rw [List.getD_eq_getElem?_getD, List.getElem?_eq_getElem hi]; exact List.getElem_mem _
    obtain ⟨a1, a2, a3⟩ := h.good.well.pgs _ hm
    rw [hk.held, hk.dim.1, hk.read _ (by omega) (by omega) (.inr (nofree _ (.inl (by rw [Int.toNat_natCast]; omega))))]
    exact ho.pgs i hi
  · rw [hk.held]; exact ho.fit
  · rw [hN, hk.sup, hk.held]
    exact WellC.pgs_eq h.hwell (fun m hm => hpage m (h.hwell.lt hm) (nofree m (.inr (.inl (by have := (usedC_iff.1 hm).2.2; omega)))))
  · rw [hN, hk.sup, hk.mark]
    exact h.mwell.pgs_eq (fun m hm _ hmN => hpage m hmN (nofree m (.inr (.inr hm))))
end Go.Proofs.YtjdmggaeagnolaaGreat.V
/- Spaces of one's own, short: Commit, Open, Root, Format of nothing. -/
set_option linter.unusedVariables false
set_option linter.unusedSimpArgs false
namespace Go.Proofs.YtjdmggaeagnolaaGreat.V
open Go Go.Proofs Go.RowKit Crc
variable {w0 w w' : World} {b db : Nat} {S : Spa} {R H : List Nat} {M : Option (List Nat)}
theorem format_nil (w : World) : Calls Tryz.prog 10 #[.pointer none] w (Ret fun v w' => v = .tuple #[.pointer none, .int .i64 1] ∧ w' = w) := by
  apply calls10
  unfold S10
  exact splitW_t (by rfl) ⟨rfl, rfl⟩
end Go.Proofs.YtjdmggaeagnolaaGreat.V
/- Contracts of the package space: Abort, Mark, Back, Done, Gen. -/
set_option linter.unusedVariables false
set_option linter.unusedSimpArgs false
namespace Go.Proofs.YtjdmggaeagnolaaGreat.V
open Go Go.Proofs Go.RowKit Crc
theorem spOwn_perm (b hb hr nb nr : Nat) (x : SLC) (m : MkL) : (spOwn b hb hr nb nr x m).Perm ((b :: hb :: hr :: rowL x) ++ (nb :: nr :: mkBl m)) := by
  unfold spOwn
  refine List.Perm.cons b (List.Perm.cons hb (List.Perm.cons hr ?_))
  refine List.Perm.trans ?_ List.perm_middle.symm
  exact List.Perm.cons nb List.perm_middle.symm
variable {w w' : World} {b db : Nat} {S : Spa} {F Fd : Nat → Prop} {x : SLC} {hb hr nb nr : Nat} {m : MkL}
theorem SpM.parts (h : SpM w b db S F Fd x hb hr nb nr m) : (b :: hb :: hr :: rowL x).Nodup ∧ (nb :: nr :: mkBl m).Nodup ∧ ∀ k ∈ nb :: nr :: mkBl m, k ∉ b :: hb :: hr :: rowL x := by
  have := (List.Perm.nodup_iff (spOwn_perm b hb hr nb nr x m)).1 h.nodup
  rw [List.nodup_append] at this
  exact ⟨this.1, this.2.1, fun k hk hk2 => this.2.2 k hk2 k hk rfl⟩
/-- The counts are others. -/
theorem SpM.remake (h : SpM w b db S F Fd x hb hr nb nr m) (ob : Only (fun k => k = b) w w') {nb' nr' : Nat} {m' : MkL} {now' : List Nat} {mark' : Option (List Nat)} {t : TypeId} (hbx : Blk w' b (spV db S.sup x S.slot hb nb' m') t)
    (hnow : ∃ q, Cnt w nb' nr' S.sup.size q now') (hmk : MkAt w S.sup.size m' mark') (hne : ∀ k ∈ nb' :: nr' :: mkBl m', k ∉ b :: hb :: hr :: rowL x ∧ ¬ Fd k) (hnd : (nb' :: nr' :: mkBl m').Nodup) (hl : now'.length = S.N) (hlm : ∀ l, mark' = some l → l.length = S.N) :
    SpM w' b db { S with now := now', mark := mark' } (fun k => Fd k ∨ k ∈ spOwn b hb hr nb' nr' x m') Fd x hb hr nb' nr' m' := by
  obtain ⟨p1, p2, p3⟩ := h.parts
  obtain ⟨q, hc⟩ := hnow
  obtain ⟨q1, c1⟩ := h.heldC
  have hap := h.apart
  have hnb : ∀ k ∈ nb' :: nr' :: mkBl m', ¬ k = b := fun k hk e => (hne k hk).1 (by rw [e]; simp)
  have hbb : ∀ k, k ∈ hb :: hr :: rowL x → ¬ k = b := fun k hk e => by
    rw [List.nodup_cons] at p1
    exact p1.1 (e ▸ hk)
  refine ⟨⟨t, hbx⟩, h.dev.apart ob (fun j hj e => hap b (by simp [spOwn]) (by rw [← show j = b from e]; exact hj)), ⟨h.pgs.sl.only ob (fun a ha => hbb _ (by simp [rowL, ha])), h.pgs.nc⟩, ⟨q1, c1.only ob (hbb _ (by simp)) (hbb _ (by simp))⟩, ⟨q, hc.only ob (hnb _ (by simp)) (hnb _ (by simp))⟩, hmk.only ob (fun j hj => hnb j (by simp [hj])), fun _ => Iff.rfl, ?_, ?_, fun j hj => Nat.lt_of_lt_of_le (h.rowlt j hj) ob.2.2.2.1, ⟨h.ok.size, h.ok.blocks, h.ok.fits, h.ok.held, hl, hlm⟩⟩
  · rw [List.Perm.nodup_iff (spOwn_perm b hb hr nb' nr' x m'), List.nodup_append]
    exact ⟨p1, hnd, fun a ha c hc e => (hne c hc).1 (e ▸ ha)⟩
  · intro k hk
    rcases List.mem_append.1 ((spOwn_perm b hb hr nb' nr' x m').mem_iff.1 hk) with e | e
    · exact hap k ((spOwn_perm b hb hr nb nr x m).mem_iff.2 (List.mem_append_left _ e))
    · exact (hne k e).2
theorem SpM.sub (h : SpM w b db S F Fd x hb hr nb nr m) {nb' nr' : Nat} {m' : MkL} (hs : ∀ k ∈ nb' :: nr' :: mkBl m', k ∈ nb :: nr :: mkBl m ∨ w.heap.size ≤ k) : (∀ k ∈ nb' :: nr' :: mkBl m', k ∉ b :: hb :: hr :: rowL x ∧ ¬ Fd k) ∧ ∀ k, (Fd k ∨ k ∈ spOwn b hb hr nb' nr' x m') → F k ∨ w.heap.size ≤ k := by
  obtain ⟨p1, p2, p3⟩ := h.parts
  have hlt := h.lt
  refine ⟨fun k hk => ?_, fun k hk => ?_⟩
  · rcases hs k hk with e | e
    · exact ⟨p3 k e, h.apart k ((spOwn_perm b hb hr nb nr x m).mem_iff.2 (List.mem_append_right _ e))⟩
    · refine ⟨fun hm => ?_, fun hf => ?_⟩
      · have := hlt k ((h.own k).2 (.inr ((spOwn_perm b hb hr nb nr x m).mem_iff.2 (List.mem_append_left _ hm))))
        omega
      · have := hlt k ((h.own k).2 (.inl hf))
        omega
  · rcases hk with hk | hk
    · exact .inl ((h.own k).2 (.inl hk))
    · rcases List.mem_append.1 ((spOwn_perm b hb hr nb' nr' x m').mem_iff.1 hk) with e | e
      · exact .inl ((h.own k).2 (.inr ((spOwn_perm b hb hr nb nr x m).mem_iff.2 (List.mem_append_left _ e))))
      · rcases hs k e with e | e
        · exact .inl ((h.own k).2 (.inr ((spOwn_perm b hb hr nb nr x m).mem_iff.2 (List.mem_append_right _ e))))
        · exact .inr e
theorem SpM.bF (h : SpM w b db S F Fd x hb hr nb nr m) : F b := (h.own b).2 (.inr (by simp [spOwn]))
theorem MkAt.ptr {w : World} {size : Int} {m : MkL} {l : Option (List Nat)} (h : MkAt w size m l) : (mkPt m).isNone = l.isNone := by
  cases m <;> cases l <;> first | rfl | exact h.elim
theorem abort_calls (h : SpM w b db S F Fd x hb hr nb nr m) :
    Calls Tryz.prog 21 #[.pointer (some ⟨b, 0, none⟩)] w (Ret fun v w' => v = .int .i64 0 ∧ StepS w b db F { S with now := S.held, mark := none } w') := by
  apply calls21
  unfold S21
  obtain ⟨t, hbx⟩ := h.box
  obtain ⟨q1, c1⟩ := h.heldC
  refine splitW_f (by rfl) (ptr_i (boxE (l := .ptr) 7 (some ⟨hb, 0, none⟩) hbx (by rfl) (by rfl) ?_))
  refine callW_of (cntclone_calls c1) ?_
  rintro _ w1 ⟨⟨b2, r2, q2, rfl, hc1, hb2, hr2⟩, he1⟩
  refine ⟨some ⟨b2, 0, none⟩, rfl, ?_⟩
  have h1 := h.ext he1
  refine ptr_i (stE (hbx.ext he1) (o := 8) (by rfl) (by show 8 < 10; omega) fun w2 hb12 oc2 => ?_)
  refine ptr_i (stE hb12 (o := 9) (by rfl) (by show 9 < 10; omega) fun w3 hb13 oc3 => ?_)
  have ob : Only (fun k => k = b) w1 w3 := Only.trans oc2 oc3 (fun j hj => .inl hj)
  have hs := h1.sub (nb' := b2) (nr' := r2) (m' := none)
  obtain ⟨s1, s2⟩ := h.sub (nb' := b2) (nr' := r2) (m' := none) (fun k hk => by
    simp only [mkBl, List.mem_cons, List.not_mem_nil, or_false] at hk
    rcases hk with rfl | rfl
    · exact .inr hb2
    · exact .inr hr2)
  have hm := h1.remake ob (nb' := b2) (nr' := r2) (m' := none) (mark' := none) hb13 ⟨q2, hc1⟩ trivial s1 (by simp [mkBl]; exact hc1.ne) h.ok.held (fun l hl => by cases hl)
  exact ⟨rfl, _, hm.toAt, s2, Only.trans (Only.of_ext (F := F) he1) ob (fun j hj => .inl (by rw [show j = b from hj]; exact h.bF))⟩
theorem mark_calls (h : SpM w b db S F Fd x hb hr nb nr m) (hm : S.mark = none) :
    Calls Tryz.prog 15 #[.pointer (some ⟨b, 0, none⟩)] w (Ret fun v w' => v = .int .i64 0 ∧ StepS w b db F { S with mark := some S.now } w') := by
  apply calls15
  unfold S15
  obtain ⟨t, hbx⟩ := h.box
  obtain ⟨q1, c1⟩ := h.nowC
  have hmp := h.markC.ptr
  rw [hm] at hmp
  refine splitW_f (by rfl) (ptr_i (boxE (l := .ptr) 9 (mkPt m) hbx (by rfl) (by rfl) ?_))
  refine splitW_f (by rw [hmp]; rfl) ?_
  refine ptr_i (boxE (l := .ptr) 8 (some ⟨nb, 0, none⟩) hbx (by rfl) (by rfl) ?_)
  refine callW_of (cntclone_calls c1) ?_
  rintro _ w1 ⟨⟨b2, r2, q2, rfl, hc1, hb2, hr2⟩, he1⟩
  refine ⟨some ⟨b2, 0, none⟩, rfl, ?_⟩
  have h1 := h.ext he1
  refine ptr_i (stE (hbx.ext he1) (o := 9) (by rfl) (by show 9 < 10; omega) fun w3 hb13 ob => ?_)
  obtain ⟨s1, s2⟩ := h.sub (nb' := nb) (nr' := nr) (m' := some (b2, r2)) (fun k hk => by
    simp only [mkBl, List.mem_cons, List.not_mem_nil, or_false] at hk
    rcases hk with rfl | rfl | rfl | rfl
    · exact .inl (by simp)
    · exact .inl (by simp)
    · exact .inr hb2
    · exact .inr hr2)
  have hnb := h.lt nb ((h.own nb).2 (.inr (by simp [spOwn])))
  have hnr := h.lt nr ((h.own nr).2 (.inr (by simp [spOwn])))
  have hm := h1.remake ob (nb' := nb) (nr' := nr) (m' := some (b2, r2)) (mark' := some S.now) hb13 ⟨q1, c1.ext he1⟩ ⟨q2, hc1⟩ s1 (by
    have := c1.ne
    have := hc1.ne
    simp only [mkBl, List.nodup_cons, List.mem_cons, List.not_mem_nil, or_false, not_or, not_false_eq_true, List.nodup_nil, and_true]
    omega) h.ok.now (fun l hl => by cases hl; exact h.ok.now)
  exact ⟨rfl, _, hm.toAt, s2, Only.trans (Only.of_ext (F := F) he1) ob (fun j hj => .inl (by rw [show j = b from hj]; exact h.bF))⟩
theorem mark_bad (h : SpM w b db S F Fd x hb hr nb nr m) {l : List Nat} (hm : S.mark = some l) :
    Calls Tryz.prog 15 #[.pointer (some ⟨b, 0, none⟩)] w (Ret fun v w' => v = .int .i64 8 ∧ w' = w) := by
  apply calls15
  unfold S15
  obtain ⟨t, hbx⟩ := h.box
  have hmp := h.markC.ptr
  rw [hm] at hmp
  refine splitW_f (by rfl) (ptr_i (boxE (l := .ptr) 9 (mkPt m) hbx (by rfl) (by rfl) ?_))
  exact splitW_t (by rw [hmp]; rfl) ⟨rfl, rfl⟩
theorem sback_calls (h : SpM w b db S F Fd x hb hr nb nr m) {l : List Nat} (hm : S.mark = some l) :
    Calls Tryz.prog 18 #[.pointer (some ⟨b, 0, none⟩)] w (Ret fun v w' => v = .int .i64 0 ∧ StepS w b db F { S with now := l, mark := none } w') := by
  apply calls18
  unfold S18
  obtain ⟨t, hbx⟩ := h.box
  have hmk := h.markC
  have hl := h.ok.mark l hm
  rw [hm] at hmk
  cases m with
  | none => exact hmk.elim
  | some a =>
    obtain ⟨q, hc⟩ := hmk
    refine splitW_f (by rfl) (ptr_i (boxE (l := .ptr) 9 (some ⟨a.1, 0, none⟩) hbx (by rfl) (by rfl) ?_))
    refine splitW_f (by rfl) ?_
    refine ptr_i (boxE (l := .ptr) 9 (some ⟨a.1, 0, none⟩) hbx (by rfl) (by rfl) ?_)
    refine ptr_i (stE hbx (o := 8) (by rfl) (by show 8 < 10; omega) fun w2 hb12 oc2 => ?_)
    refine ptr_i (stE hb12 (o := 9) (by rfl) (by show 9 < 10; omega) fun w3 hb13 oc3 => ?_)
    have ob : Only (fun k => k = b) w w3 := Only.trans oc2 oc3 (fun j hj => .inl hj)
    obtain ⟨s1, s2⟩ := h.sub (nb' := a.1) (nr' := a.2) (m' := none) (fun k hk => by
      simp only [mkBl, List.mem_cons, List.not_mem_nil, or_false] at hk
      rcases hk with rfl | rfl <;> exact .inl (by simp [mkBl]))
    have hm := h.remake ob (nb' := a.1) (nr' := a.2) (m' := none) (mark' := none) hb13 ⟨q, hc⟩ trivial s1 (by simp [mkBl]; exact hc.ne) hl (fun l hl => by cases hl)
    exact ⟨rfl, _, hm.toAt, s2, ob.mono (fun j hj => by rw [show j = b from hj]; exact h.bF)⟩
theorem sdone_calls (h : SpM w b db S F Fd x hb hr nb nr m) {l : List Nat} (hm : S.mark = some l) :
    Calls Tryz.prog 19 #[.pointer (some ⟨b, 0, none⟩)] w (Ret fun v w' => v = .int .i64 0 ∧ StepS w b db F { S with mark := none } w') := by
  apply calls19
  unfold S19
  obtain ⟨t, hbx⟩ := h.box
  obtain ⟨q1, c1⟩ := h.nowC
  have hmp := h.markC.ptr
  rw [hm] at hmp
  refine splitW_f (by rfl) (ptr_i (boxE (l := .ptr) 9 (mkPt m) hbx (by rfl) (by rfl) ?_))
  refine splitW_f (by rw [hmp]; rfl) ?_
  refine ptr_i (stE hbx (o := 9) (by rfl) (by show 9 < 10; omega) fun w3 hb13 ob => ?_)
  obtain ⟨s1, s2⟩ := h.sub (nb' := nb) (nr' := nr) (m' := none) (fun k hk => by
    simp only [mkBl, List.mem_cons, List.not_mem_nil, or_false] at hk
    rcases hk with rfl | rfl <;> exact .inl (by simp))
  have hm := h.remake ob (nb' := nb) (nr' := nr) (m' := none) (mark' := none) hb13 ⟨q1, c1⟩ trivial s1 (by simp [mkBl]; exact c1.ne) h.ok.now (fun l hl => by cases hl)
  exact ⟨rfl, _, hm.toAt, s2, ob.mono (fun j hj => by rw [show j = b from hj]; exact h.bF)⟩
theorem done_bad (h : SpM w b db S F Fd x hb hr nb nr m) (hm : S.mark = none) :
    Calls Tryz.prog 19 #[.pointer (some ⟨b, 0, none⟩)] w (Ret fun v w' => v = .int .i64 8 ∧ w' = w) := by
  apply calls19
  unfold S19
  obtain ⟨t, hbx⟩ := h.box
  have hmp := h.markC.ptr
  rw [hm] at hmp
  refine splitW_f (by rfl) (ptr_i (boxE (l := .ptr) 9 (mkPt m) hbx (by rfl) (by rfl) ?_))
  exact splitW_t (by rw [hmp]; rfl) ⟨rfl, rfl⟩
theorem gen_calls (h : SpM w b db S F Fd x hb hr nb nr m) :
    Calls Tryz.prog 27 #[.pointer (some ⟨b, 0, none⟩)] w (Ret fun v w' => v = .int .u64 (S.sup.gen : Int) ∧ w' = w) := by
  apply calls27
  unfold S27
  obtain ⟨t, hbx⟩ := h.box
  exact splitW_f (by rfl) (ptr_i (boxE (l := .int .u64) 1 (S.sup.gen : Int) hbx (by rfl) (by rfl) ⟨rfl, rfl⟩))
end Go.Proofs.YtjdmggaeagnolaaGreat.V
/- Great spaces: contracts, short, by the blocks that they own. -/
set_option linter.unusedVariables false
set_option linter.unusedSimpArgs false
namespace Go.Proofs.YtjdmggaeagnolaaGreat.V
open Go Go.Proofs Go.RowKit Crc
theorem MW.none_iff {N : Nat} {ps : List Nat} {pg : PgF} {l m : Option (List Nat)} (h : MW N ps pg l m) : (l = none ↔ m = none) := by
  cases l <;> cases m <;> first | exact h.elim | simp
variable {w w' : World} {b db : Nat} {S : Spa} {F : Nat → Prop} {R H : List Nat} {M : Option (List Nat)}
theorem sp_fit (h : SpAt w b db S F) : ∀ n, S.now.getD n 0 < 65536 := by
  obtain ⟨Fd, x, hb, hr, nb, nr, m, h⟩ := h
  exact fun n => (cnt_lt h n).1
theorem sp_free (h : SpAt w b db S F) : Calls Tryz.prog 17 #[.pointer (some ⟨b, 0, none⟩)] w (Ret fun v w' => v = .int .i64 (S.freeN : Int) ∧ Ext w w') := by
  obtain ⟨Fd, x, hb, hr, nb, nr, m, h⟩ := h
  exact freeN_calls h
theorem sp_count (h : SpAt w b db S F) {n : Nat} (hn : n < 4294967296) : Calls Tryz.prog 20 #[.pointer (some ⟨b, 0, none⟩), .int .u32 (n : Int)] w (Ret fun v w' => v = .int .i64 ((S.now.getD n 0 : Nat) : Int) ∧ w' = w) := by
  obtain ⟨Fd, x, hb, hr, nb, nr, m, h⟩ := h
  exact count_calls h hn
theorem sp_get (h : SpAt w b db S F) {n : Nat} (hn : n < 4294967296) : Calls Tryz.prog 22 #[.pointer (some ⟨b, 0, none⟩), .int .u32 (n : Int)] w (Ret (PgRet w (S.get n))) := by
  obtain ⟨Fd, x, hb, hr, nb, nr, m, h⟩ := h
  exact getS_calls h hn
theorem sp_root (h : SpAt w b db S F) : Calls Tryz.prog 26 #[.pointer (some ⟨b, 0, none⟩)] w (Ret fun v w' => v = .int .u32 (S.sup.root : Int) ∧ w' = w) := by
  obtain ⟨Fd, x, hb, hr, nb, nr, m, h⟩ := h
  exact root_calls h
/-! ### What changes -/
/-- What a Put may come to. -/
def PutR (S S' : Spa) (p : Page) (R H : List Nat) (M : Option (List Nat)) (n : Nat) (e : Int) : Prop :=
  (e = 3 ∧ n = 0 ∧ S' = S ∧ S.room p.2.1.length < (p.2.2.size : Int)) ∨ (e = 9 ∧ n = 0 ∧ S' = S ∧ S.freeN ≤ S.sup.pages.length) ∨ (e = 0 ∧ PutOk S S' p n ∧ Great S' (n :: R) H M ∧ (∀ q ∈ S'.dev.pen, q ∈ S.dev.pen ∨ q.1 = (n : Int)) ∧ S.sup.pages.length < S.freeN)
theorem put_pen {S : Spa} {p : Page} (h : (S.put p).2.2 = 0) : ∀ q ∈ (S.put p).1.dev.pen, q ∈ S.dev.pen ∨ q.1 = ((S.put p).2.1 : Int) := by
  revert h
  unfold Spa.put
  split
  · rename_i hq
    intro h
    exact absurd h hq
  · split
    · rename_i _ hq
      intro h
      exact absurd h hq
    · split
      · rename_i _ _ hq
        intro h
        exact absurd h hq
      · intro _ q hq
        revert hq
        dsimp only
        unfold writeF
        split
        · exact fun hq => .inl hq
        · unfold Dev.write
          split
          · exact fun hq => .inl hq
          · split
            · exact fun hq => .inl hq
            · intro hq
              rcases List.mem_append.1 hq with e | e
              · exact .inl e
              · rw [List.mem_singleton.1 e]
                exact .inr rfl
theorem sp_put (h : SpAt w b db S F) {p : Page} {A : Option Addr} {n c : Nat} (hg : Great S (p.2.1 ++ R) H M) (hpen : S.dev.pen.length ≤ 900000) (hs : Sli (numE .u32) w A n p.2.1) (hA : ∀ a, A = some a → ¬ F a.block) (ht : 3 ≤ p.1.toNat) (hk : (p.2.1.length : Int) ≤ S.room 0 / 4) (hds : p.2.2.size ≤ 1000000000) :
    Calls Tryz.prog 13 #[.pointer (some ⟨b, 0, none⟩), .agg (pgV p (A, n, c)).toArray] w (Ret fun v w' => ∃ (S' : Spa) (k : Nat) (e : Int), v = .tuple #[.int .u32 (k : Int), .int .i64 e] ∧ PutR S S' p R H M k e ∧ StepS w b db F S' w') := by
  obtain ⟨Fd, x, hb, hr, nb, nr, m, h'⟩ := h
  have hdim := hg.good.dims
  have hN := hdim.n
  have hsz := hdim.size
  have hroom := hdim.room
  have hku : ∀ k ∈ p.2.1, usedC S.sup.pages S.now k = true := fun k hk => hg.good.well.root k (List.mem_append_left _ hk)
  have hr0 : S.room 0 = S.sup.size - 18 := by unfold Spa.room; rw [hroom, if_neg (by omega)]; omega
  refine (putS_calls h' hg.good.h01 (by have := hg.good.gen; omega) (by omega) p hs (fun k hk => by
    have := hg.good.well.lt (hku k hk)
    omega) hA hds).mono (Ret.mono ?_)
  rintro v w' ⟨rfl, hst⟩
  refine ⟨(S.put p).1, (S.put p).2.1, (S.put p).2.2, rfl, ?_, hst⟩
  have c1 : ¬ (p.1.toNat < 3 ∨ p.2.1.length > 65535 ∨ ∃ k ∈ p.2.1, S.asked k = false) := by
    rintro (e | e | ⟨k, hk, e⟩)
    · omega
    · omega
    · rw [(used_asked hg.good (hku k hk)).1] at e; cases e
  have c2 : ¬ ∃ k ∈ p.2.1, S.now.getD k 0 = 0 := by
    rintro ⟨k, hk, e⟩
    exact (used_asked hg.good (hku k hk)).2.1 e
  by_cases hd : (p.2.2.size : Int) ≤ S.room p.2.1.length
  · by_cases hf : S.sup.pages.length < S.freeN
    · obtain ⟨g1, g2, g3⟩ := great_put hg ht hk hd hf
      exact .inr (.inr ⟨g1, g2, g3, put_pen g1, hf⟩)
    · have hE : S.putE p = 9 := by
        unfold Spa.putE
        rw [if_neg c1, if_neg c2, if_neg (by rintro (e | e) <;> omega), if_pos (by omega)]
      have hP : S.put p = (S, 0, 9) := by unfold Spa.put; rw [if_pos (by rw [hE]; decide), hE]
      rw [hP]
      exact .inr (.inl ⟨rfl, rfl, rfl, by omega⟩)
  · have hE : S.putE p = 3 := by
      unfold Spa.putE
      rw [if_neg c1, if_neg c2, if_pos (.inr (by omega))]
    have hP : S.put p = (S, 0, 3) := by unfold Spa.put; rw [if_pos (by rw [hE]; decide), hE]
    rw [hP]
    exact .inl ⟨rfl, rfl, rfl, by omega⟩
theorem sp_drop (h : SpAt w b db S F) {n : Nat} (hg : Great S (n :: R) H M) : Calls Tryz.prog 16 #[.pointer (some ⟨b, 0, none⟩), .int .u32 (n : Int)] w (Ret fun v w' => v = .int .i64 0 ∧ ∃ c' : List Nat, Great { S with now := c' } R H M ∧ StepS w b db F { S with now := c' } w' ∧ Drp S.asked S.page S.now [n] c' 0 ∧ ∀ k, c'.getD k 0 ≤ S.now.getD k 0) := by
  obtain ⟨Fd, x, hb, hr, nb, nr, m, h'⟩ := h
  obtain ⟨c', d1, d2, d3, d4⟩ := drop_good hg.good
  have hu := hg.good.well.root n (by simp)
  have hnN := hg.good.well.lt hu
  have hN := hg.good.dims.n
  refine (drop_calls h' (n := n) (by omega) (c' := c') (e := 0) (fun _ => d1) (fun e => by rw [(used_asked hg.good hu).1] at e; cases e)).mono (Ret.mono ?_)
  rintro v w' ⟨rfl, hS, hO⟩
  exact ⟨rfl, c', hg.less d2 d4, ⟨F, hS.toAt, fun k hk => .inl hk, hO⟩, d1, d4⟩
theorem sp_share (h : SpAt w b db S F) {n : Nat} (hg : Great S R H M) (hu : usedC S.sup.pages S.now n = true) (h6 : S.now.getD n 0 < 65535) :
    Calls Tryz.prog 25 #[.pointer (some ⟨b, 0, none⟩), .int .u32 (n : Int)] w (Ret fun v w' => v = .int .i64 0 ∧ Great { S with now := S.now.set n (S.now.getD n 0 + 1) } (n :: R) H M ∧ StepS w b db F { S with now := S.now.set n (S.now.getD n 0 + 1) } w') := by
  obtain ⟨Fd, x, hb, hr, nb, nr, m, h'⟩ := h
  obtain ⟨s1, s2, s3⟩ := share_good hg.good hu h6
  have hnN := hg.good.well.lt hu
  have hN := hg.good.dims.n
  refine (share_calls h' (n := n) (by omega)).mono (Ret.mono ?_)
  rintro v w' ⟨rfl, hS, hO⟩
  rw [s1]
  rw [s3] at s2 hS
  exact ⟨rfl, hg.more hu s2, F, hS.toAt, fun k hk => .inl hk, hO⟩
/-- What a Commit leaves. -/
structure ComOk (S S' : Spa) (root : Nat) (R : List Nat) : Prop where
  great : Great S' R R none
  sup : S'.sup = S.next root
  now : S'.now = S.comC
  held : S'.held = S.comC
  mark : S'.mark = none
  pen : S'.dev.pen = []
  page : ∀ k, usedC S.sup.pages S.now k = true → S'.page k = S.page k
theorem sp_commit (h : SpAt w b db S F) (hg : Great S R H M) {root : Nat} (hroot : root = 0 ∨ usedC S.sup.pages S.now root = true) (hgen : S.sup.gen + 1 < 1000000000000) (hpen : S.dev.pen.length ≤ 900000) :
    Calls Tryz.prog 24 #[.pointer (some ⟨b, 0, none⟩), .int .u32 (root : Int)] w (Ret fun v w' => v = .int .i64 0 ∧ ComOk S (S.commit root).1 root R ∧ StepS w b db F (S.commit root).1 w') := by
  have hfit := sp_fit h
  obtain ⟨Fd, x, hb, hr, nb, nr, m, h'⟩ := h
  obtain ⟨c1, c2, c3, c4, c5, c6, c7⟩ := great_commit hg hroot hgen hfit
  have hr32 : root < 4294967296 := by
    have := hg.good.dims.n
    rcases hroot with e | e
    · omega
    · have := (used_asked hg.good e).2.2; omega
  refine (commitS_calls h' hg.good.h01 (hg.heldOK.pgsOk hg.good) (by omega) hpen hr32).mono (Ret.mono ?_)
  rintro v w' ⟨rfl, hst⟩
  exact ⟨by rw [c1], ⟨c2, by rw [c1], by rw [c1], by rw [c1], by rw [c1], by rw [c1]; exact c3, c4⟩, hst⟩
theorem sp_open (h : SpAt w b db S F) (hg : Great S R H M) :
    Calls Tryz.prog 12 #[.pointer (some ⟨db, 0, none⟩)] w (Ret fun v w' => ∃ b' F', v = .tuple #[.pointer (some ⟨b', 0, none⟩), .int .i64 0] ∧ SpAt w' b' db { S with now := S.held, mark := none } F' ∧ Ext w w' ∧ w.heap.size ≤ b' ∧ ∀ k, F' k → F k ∨ w.heap.size ≤ k) := by
  obtain ⟨Fd, x, hb, hr, nb, nr, m, h'⟩ := h
  obtain ⟨o1, o2⟩ := great_open hg
  refine (open_calls h'.dev).mono (Ret.mono ?_)
  rintro v w' ⟨he, ⟨hn, _⟩ | ⟨_, b', F', rfl, hS, hb', hF⟩⟩
  · exact absurd o1 hn
  · rw [o2] at hS
    refine ⟨b', F', rfl, hS, he, hb', fun k hk => ?_⟩
    rcases hF k hk with e | e
    · exact .inl ((h'.own k).2 (.inl e))
    · exact .inr e
theorem sp_abort (h : SpAt w b db S F) : Calls Tryz.prog 21 #[.pointer (some ⟨b, 0, none⟩)] w (Ret fun v w' => v = .int .i64 0 ∧ StepS w b db F { S with now := S.held, mark := none } w') := by
  obtain ⟨Fd, x, hb, hr, nb, nr, m, h'⟩ := h
  exact abort_calls h'
theorem sp_mark (h : SpAt w b db S F) (hm : S.mark = none) : Calls Tryz.prog 15 #[.pointer (some ⟨b, 0, none⟩)] w (Ret fun v w' => v = .int .i64 0 ∧ StepS w b db F { S with mark := some S.now } w') := by
  obtain ⟨Fd, x, hb, hr, nb, nr, m, h'⟩ := h
  exact mark_calls h' hm
theorem sp_back (h : SpAt w b db S F) {l : List Nat} (hm : S.mark = some l) : Calls Tryz.prog 18 #[.pointer (some ⟨b, 0, none⟩)] w (Ret fun v w' => v = .int .i64 0 ∧ StepS w b db F { S with now := l, mark := none } w') := by
  obtain ⟨Fd, x, hb, hr, nb, nr, m, h'⟩ := h
  exact sback_calls h' hm
theorem sp_done (h : SpAt w b db S F) {l : List Nat} (hm : S.mark = some l) : Calls Tryz.prog 19 #[.pointer (some ⟨b, 0, none⟩)] w (Ret fun v w' => v = .int .i64 0 ∧ StepS w b db F { S with mark := none } w') := by
  obtain ⟨Fd, x, hb, hr, nb, nr, m, h'⟩ := h
  exact sdone_calls h' hm
end Go.Proofs.YtjdmggaeagnolaaGreat.V
/- Acts that came in, opened. -/
set_option linter.unusedVariables false
set_option linter.unusedSimpArgs false
namespace Go.Proofs.YtjdmggaeagnolaaGreat.V
open Go Go.ChangeShapes Go.WideShapes Go.ChangeAt Go.RowKit Go.Deep Go.Proofs Crc
theorem n_u8 {z : Int} (h : (Lit.int .u8 z).wf = true) : ∃ y : UInt8, z = (y.toNat : Int) := by
  have := nat_u8 h
  exact ⟨UInt8.ofNat z.toNat, by rw [UInt8.toNat_ofNat']; omega⟩
abbrev ActV := Int × UInt8 × Int × Int × ByteArray
def actE : Enc ActV where
  k := 5
  f a := [.int .i64 a.1, .int .u8 (a.2.1.toNat : Int), .int .i64 a.2.2.1, .int .i64 a.2.2.2.1, .string a.2.2.2.2]
  len _ := rfl
  one _ := by
    intro v hv
    simp only [List.mem_cons, List.not_mem_nil, or_false] at hv
    rcases hv with rfl | rfl | rfl | rfl | rfl <;> rfl
  pos := by decide
def I64 (z : Int) : Prop := -9223372036854775808 ≤ z ∧ z < 9223372036854775808
def actQ (a : ActV) : Prop := I64 a.1 ∧ I64 a.2.2.1 ∧ I64 a.2.2.2.1 ∧ a.2.2.2.2.size ≤ 9223372036854775807
section
variable {H : Type} {enc : TypeId × Value → H} {w : World} {base : Nat} {spare : Nat → Bool} {held : Bool}
theorem dec_act {n : Nat} {cs : List Value} {x : DataW H × List MemPlace} (h : DataW.trod enc Tryz.prog w base spare held n 59 cs = some x) : ∃ a : ActV, actE.f a = cs ∧ actQ a := by
  obtain ⟨hl, m, hf2⟩ := dec_fields (ts := [3, 5, 3, 3, 9]) (by kernel_rfl) (by kernel_rfl) (by kernel_rfl) (by kernel_rfl) h
  obtain ⟨v0, y0, e0, h0⟩ := hf2 0 _ rfl
  obtain ⟨v1, y1, e1, h1⟩ := hf2 1 _ rfl
  obtain ⟨v2, y2, e2, h2⟩ := hf2 2 _ rfl
  obtain ⟨v3, y3, e3, h3⟩ := hf2 3 _ rfl
  obtain ⟨v4, y4, e4, h4⟩ := hf2 4 _ rfl
  obtain ⟨z0, hz0, hw0⟩ := dec_int (k := .i64) (by kernel_rfl) h0
  obtain ⟨z1, hz1, hw1⟩ := dec_int (k := .u8) (by kernel_rfl) h1
  obtain ⟨z2, hz2, hw2⟩ := dec_int (k := .i64) (by kernel_rfl) h2
  obtain ⟨z3, hz3, hw3⟩ := dec_int (k := .i64) (by kernel_rfl) h3
  obtain ⟨s, hs, hsl⟩ := dec_string (by kernel_rfl) h4
  obtain ⟨u, rfl⟩ := n_u8 hw1
  cases hz0; cases hz1; cases hz2; cases hz3; cases hs
  refine ⟨(z0, u, z2, z3, s), ?_, nat_i64 hw0, nat_i64 hw2, nat_i64 hw3, by simpa [maxLen] using hsl⟩
  match cs, hl with
  | [a0, a1, a2, a3, a4], _ =>
    simp only [List.getElem?_cons_zero, List.getElem?_cons_succ, Option.some.injEq] at e0 e1 e2 e3 e4
    rw [e0, e1, e2, e3, e4]
    rfl
end
end Go.Proofs.YtjdmggaeagnolaaGreat.V
/- Law 13: runs in memory; pick, page, Own, light. -/
set_option linter.unusedVariables false
set_option linter.unusedSimpArgs false
namespace Go.Proofs.YtjdmggaeagnolaaGreat.V
open Go Go.Proofs Go.RowKit Crc
/-- A row of blocks that nobody else writes. -/
structure RowN (w : World) (F : Nat → Prop) (r : Nat) (x : SLC) (l : List Nat) : Prop where
  sl : Sli (numE .u32) w x.1 x.2.1 l
  cap : x.2.1 ≤ x.2.2
  apart : ∀ a, x.1 = some a → a.block < w.heap.size ∧ ¬ F a.block ∧ a.block ≠ r
theorem RowN.nil (w : World) (F : Nat → Prop) (r : Nat) : RowN w F r (none, 0, 0) [] := ⟨Sli.nil w none, Nat.le_refl _, fun a ha => by cases ha⟩
theorem RowN.of {w : World} {F : Nat → Prop} {r B : Nat} {e : TypeId} {A : Option Addr} {n c : Nat} {l : List Nat} (h : Owni (numE .u32) e w B A n c l) (hF : ∀ k, F k → k < B) (hr : r < B) : RowN w F r (A, n, c) l := by
  refine ⟨h.sl, h.le.1, fun a ha => ?_⟩
  have ha : A = some a := ha
  have h1 := h.row a.block (by rw [ha]; rfl)
  have h2 := h.row_lt a.block (by rw [ha]; rfl)
  exact ⟨h2, fun hf => by have := hF _ hf; omega, by omega⟩
theorem RowN.step {w w' : World} {F F' G : Nat → Prop} {r : Nat} {x : SLC} {l : List Nat} (h : RowN w F r x l) (hO : Only G w w') (hG : ∀ k, G k → F k ∨ k = r ∨ w.heap.size ≤ k) (hF : ∀ k, F' k → F k ∨ w.heap.size ≤ k) : RowN w' F' r x l := by
  refine ⟨h.sl.only hO (fun a ha hg => ?_), h.cap, fun a ha => ?_⟩
  · obtain ⟨a1, a2, a3⟩ := h.apart a ha
    rcases hG _ hg with e | e | e
    · exact a2 e
    · exact a3 e
    · omega
  · obtain ⟨a1, a2, a3⟩ := h.apart a ha
    refine ⟨Nat.lt_of_lt_of_le a1 hO.2.2.2.1, fun hf => ?_, a3⟩
    rcases hF _ hf with e | e
    · exact a2 e
    · omega
theorem RowN.ext {w w' : World} {F : Nat → Prop} {r : Nat} {x : SLC} {l : List Nat} (h : RowN w F r x l) (he : Ext w w') : RowN w' F r x l := h.step (Only.of_ext (F := fun _ => False) he) (fun _ h => h.elim) (fun k hk => .inl hk)
def runV (db b : Nat) (xo xh xm : SLC) (mk : Bool) (root : Nat) : List Value :=
  [.pointer (some ⟨db, 0, none⟩), .pointer (some ⟨b, 0, none⟩), .slice xo.1 xo.2.1 xo.2.2, .slice xh.1 xh.2.1 xh.2.2, .slice xm.1 xm.2.1 xm.2.2, .bool mk, .int .u32 (root : Int)]
structure RunX (w0 w : World) (r db b : Nat) (S : Spa) (F : Nat → Prop) (xo xh xm : SLC) (own held mark : List Nat) (mk : Bool) (root : Nat) : Prop where
  box : Blk w r (runV db b xo xh xm mk root) 61
  sp : SpAt w b db S F
  base : ∀ k, F k → w0.heap.size ≤ k
  rr : w0.heap.size ≤ r ∧ ¬ F r
  ro : RowN w F r xo own
  rh : RowN w F r xh held
  rm : RowN w F r xm mark
  x : Ext w0 w
variable {w0 w w' : World} {r db b : Nat} {S : Spa} {F : Nat → Prop} {xo xh xm : SLC} {own held mark : List Nat} {mk : Bool} {root : Nat}
theorem RunX.ext (h : RunX w0 w r db b S F xo xh xm own held mark mk root) (he : Ext w w') : RunX w0 w' r db b S F xo xh xm own held mark mk root :=
  ⟨h.box.ext he, h.sp.ext he, h.base, h.rr, h.ro.ext he, h.rh.ext he, h.rm.ext he, h.x.trans he⟩
theorem RunX.step {S' : Spa} (h : RunX w0 w r db b S F xo xh xm own held mark mk root) (hst : StepS w b db F S' w') : ∃ F', RunX w0 w' r db b S' F' xo xh xm own held mark mk root := by
  obtain ⟨F', g1, g2, g3⟩ := hst
  have hrl := h.box.lt
  have hG : ∀ k, F k → F k ∨ k = r ∨ w.heap.size ≤ k := fun k hk => .inl hk
  refine ⟨F', h.box.only g3 h.rr.2, g1, fun k hk => ?_, ⟨h.rr.1, fun hf => ?_⟩, h.ro.step g3 hG g2, h.rh.step g3 hG g2, h.rm.step g3 hG g2, Only.ext h.x g3 h.base⟩
  · rcases g2 k hk with e | e
    · exact h.base k e
    · exact Nat.le_trans h.x.size e
  · rcases g2 r hf with e | e
    · exact h.rr.2 e
    · omega
/-- The run's block has been changed. -/
theorem RunX.set {xo' xh' xm' : SLC} {own' held' mark' : List Nat} {mk' : Bool} {root' : Nat} (h : RunX w0 w r db b S F xo xh xm own held mark mk root) (ob : Only (fun k => k = r) w w')
    (hb : Blk w' r (runV db b xo' xh' xm' mk' root') 61) (ho : RowN w F r xo' own') (hh : RowN w F r xh' held') (hm : RowN w F r xm' mark') : RunX w0 w' r db b S F xo' xh' xm' own' held' mark' mk' root' := by
  have hG : ∀ k, (fun k => k = r) k → F k ∨ k = r ∨ w.heap.size ≤ k := fun k hk => .inr (.inl hk)
  have hF : ∀ k, F k → F k ∨ w.heap.size ≤ k := fun k hk => .inl hk
  exact ⟨hb, h.sp.only ob (fun j hj e => h.rr.2 (by rw [← show j = r from e]; exact hj)), h.base, h.rr, ho.step ob hG hF, hh.step ob hG hF, hm.step ob hG hF, Only.ext h.x ob (fun j hj => by rw [show j = r from hj]; exact h.rr.1)⟩
/-- The run goes on with another space. -/
theorem RunX.swap {b' : Nat} {S' : Spa} {F' : Nat → Prop} {xo' : SLC} {own' : List Nat} {mk' : Bool} {w1 : World} (h : RunX w0 w r db b S F xo xh xm own held mark mk root) (he : Ext w w1) (hs : SpAt w1 b' db S' F') (hF' : ∀ k, F' k → F k ∨ w.heap.size ≤ k) (ob : Only (fun k => k = r) w1 w')
    (hb : Blk w' r (runV db b' xo' xh xm mk' root) 61) (ho : RowN w1 F' r xo' own') : RunX w0 w' r db b' S' F' xo' xh xm own' held mark mk' root := by
  have hrl := h.box.lt
  have h1 := h.ext he
  have hrF : ¬ F' r := fun hf => by
    rcases hF' r hf with e | e
    · exact h.rr.2 e
    · omega
  have hG : ∀ k, (fun k => k = r) k → F' k ∨ k = r ∨ w1.heap.size ≤ k := fun k hk => .inr (.inl hk)
  have hF : ∀ k, F' k → F' k ∨ w1.heap.size ≤ k := fun k hk => .inl hk
  have re : ∀ {x : SLC} {l : List Nat}, RowN w F r x l → RowN w1 F' r x l := fun hr => hr.step (Only.of_ext (F := fun _ => False) he) (fun _ h => h.elim) hF'
  refine ⟨hb, hs.only ob (fun j hj e => hrF (by rw [← show j = r from e]; exact hj)), fun k hk => ?_, ⟨h.rr.1, hrF⟩, ho.step ob hG hF, (re h.rh).step ob hG hF, (re h.rm).step ob hG hF, Only.ext h1.x ob (fun j hj => by rw [show j = r from hj]; exact h.rr.1)⟩
  rcases hF' k hk with e | e
  · exact h.base k e
  · exact Nat.le_trans h.x.size e
/-! ### Small functions -/
theorem own_u32 {w : World} {A : Option Addr} {n c : Nat} {l : List Nat} (h : Sli (numE .u32) w A n l) (hn : n ≤ 1000000) :
    Calls Tryz.prog 70 #[.slice A n c] w (Ret fun v w' => ∃ x : SLC, v = .slice x.1 x.2.1 x.2.2 ∧ Owni (numE .u32) 35 w' w.heap.size x.1 x.2.1 x.2.2 l ∧ Ext w w') := by
  apply calls70
  unfold S70
  apply newW_i
  have ho : Owni (numE .u32) 35 (w.alloc (.cells #[] 35)) w.heap.size (some ⟨w.heap.size, 0, none⟩) 0 0 [] := Owni.lit (E := numE .u32) (xs := []) rfl (Nat.le_refl _) (by omega)
  have he : Ext w (w.alloc (.cells #[] 35)) := (Ext.refl w).alloc _
  refine append_sli (c := 0) (n := 0) (m := n) elem_u32 ho he.size (h.ext he) (by omega) (by omega) ?_
  intro A' c' w' ho' hg _
  rw [List.nil_append, Nat.zero_add] at ho'
  rw [Nat.zero_add]
  exact ⟨(A', n, c'), rfl, ho', he.grown hg.grown (fun j hj => ho.row j hj)⟩
/-- A number behind a row of one's own. -/
theorem app_one {w : World} {B : Nat} {A : Option Addr} {n c r v : Nat} {l : List Nat} {K : SLC → WP} (ho : Owni (numE .u32) 35 w B A n c l) (hB : B ≤ w.heap.size) (hb : Blk w r [.int .u32 (v : Int)] 35) (hn : n ≤ 1000000)
    (hK : ∀ A' c' w', Owni (numE .u32) 35 w' B A' (n + 1) c' (l ++ [v]) → (∀ w0, Ext w0 w → w0.heap.size ≤ B → Ext w0 w') → K (A', n + 1, c') w') :
    runW Tryz.prog (Builtin.append_ #[38, 38] 38 #[.slice A n c, .slice (some (⟨r, 0, none⟩ : Addr)) 1 1]) .slc K w := by
  have hs : Sli (numE .u32) w (some ⟨r, 0, none⟩) 1 [v] := Sli.of_blk hb rfl (by omega)
  refine append_sli elem_u32 ho hB hs (by omega) (by omega) ?_
  intro A' c' w' ho' hg _
  exact hK A' c' w' ho' (fun w0 he hw0 => he.grown hg.grown (fun j hj => Nat.le_trans hw0 (ho.row j hj)))
def pickI (own : List Nat) (n : Int) : Int := if own.length = 0 then -1 else pick n own.length
theorem rpick_calls (h : RunX w0 w r db b S F xo xh xm own held mark mk root) {n : Int} (hn : I64 n) (hl : own.length ≤ 1000000) :
    Calls Tryz.prog 67 #[.pointer (some ⟨r, 0, none⟩), .int .i64 n] w (Ret fun v w' => v = .int .i64 (pickI own n) ∧ w' = w) := by
  apply calls67
  unfold S67 pickI
  have hol := h.ro.sl.len
  refine ptr_i (boxE (l := .slc) 2 xo h.box (by rfl) (by rfl) ?_)
  refine splitW_i (fun hq => ?_) (fun hq => ?_)
  · have hq := beq_iff_eq.1 hq
    rw [if_pos (by omega)]
    exact ⟨rfl, rfl⟩
  · have hq := beq_eq_false_iff_ne.1 hq
    rw [if_neg (by omega)]
    refine ptr_i (boxE (l := .slc) 2 xo h.box (by rfl) (by rfl) ?_)
    refine callW_of (pick_calls w hn.1 hn.2 (by omega)) ?_
    rintro _ w1 ⟨rfl, hw1⟩
    refine ⟨_, rfl, ?_, hw1⟩
    rw [show ((xo.2.1 : Nat) : Int) = ((own.length : Nat) : Int) by omega]
theorem pick_lt {n m : Int} (h : 0 < m) : 0 ≤ pick n m ∧ pick n m < m := by
  unfold pick
  rw [if_neg (by omega)]
  exact ⟨Int.emod_nonneg _ (by omega), Int.emod_lt_of_pos _ h⟩
theorem pickI_cases (own : List Nat) (n : Int) : pickI own n = -1 ∨ ∃ i : Nat, pickI own n = (i : Int) ∧ i < own.length := by
  unfold pickI
  split
  · exact .inl rfl
  · have := pick_lt (n := n) (m := (own.length : Int)) (by omega)
    exact .inr ⟨(pick n own.length).toNat, by omega, by omega⟩
def kidN (own : List Nat) (k : Int) : Nat := (pick k (min 4 (own.length + 1) : Nat)).toNat
theorem kidN_le (own : List Nat) (k : Int) : kidN own k ≤ 3 ∧ kidN own k ≤ own.length := by
  have := pick_lt (n := k) (m := ((min 4 (own.length + 1) : Nat) : Int)) (by omega)
  unfold kidN
  omega
def tagP (t : UInt8) : UInt8 := UInt8.ofNat (3 + t.toNat % 200)
theorem tagP_nat (t : UInt8) : (tagP t).toNat = 3 + t.toNat % 200 := by
  unfold tagP
  rw [UInt8.toNat_ofNat']
  omega
def pageP (own : List Nat) (a : ActV) : Page := (tagP a.2.1, own.drop (own.length - kidN own a.2.2.1), a.2.2.2.2)
theorem tag_wrap (t : UInt8) : IntKind.wrap .u8 ((3 : Int) + Int.tmod (t.toNat : Int) 200) = ((tagP t).toNat : Int) := by
  rw [tagP_nat]
  have h1 : Int.tmod (t.toNat : Int) 200 = ((t.toNat % 200 : Nat) : Int) := by
    rw [Int.tmod_eq_emod_of_nonneg (by omega)]; omega
  rw [h1, wrap_u8]
  omega
theorem rpage_calls (h : RunX w0 w r db b S F xo xh xm own held mark mk root) {a : ActV} (ha : actQ a) (hl : own.length ≤ 1000000) :
    Calls Tryz.prog 69 #[.pointer (some ⟨r, 0, none⟩), .agg (actE.f a).toArray] w (Ret fun v w' => ∃ y : SLC, v = .agg (pgV (pageP own a) y).toArray ∧ Owni (numE .u32) 35 w' w.heap.size y.1 y.2.1 y.2.2 (pageP own a).2.1 ∧ Ext w w') := by
  apply calls69
  unfold S69
  have hol := h.ro.sl.len
  have hcap := h.ro.cap
  refine new_i fun r1 w1 hb1 he1 hr1 hz1 => ?_
  have hb1 : Blk w1 r1 (actE.f a) _ := hb1
  refine new_i fun r2 w2 hb2 he2 hr2 hz2 => ?_
  have he02 := he1.trans he2
  refine draw_i fun w3 he3 _ _ => ?_
  have he03 := he02.trans he3
  have hb13 := (hb1.ext he2).ext he3
  have h3 := h.ext he03
  refine boxF (l := .int .i64) 2 a.2.2.1 hb13 (by rfl) ?_
  refine ptr_i (boxE (l := .slc) 2 xo h3.box (by rfl) (by rfl) ?_)
  have e1 : IntKind.wrap .i64 (((xo.2.1 : Nat) : Int) + 1) = ((own.length + 1 : Nat) : Int) := by rw [wrap_i64 (by omega) (by omega)]; omega
  rw [e1]
  have e2 : (if ((own.length + 1 : Nat) : Int) < 4 then ((own.length + 1 : Nat) : Int) else 4) = ((min 4 (own.length + 1) : Nat) : Int) := by split <;> omega
  rw [e2]
  refine callW_of (pick_calls w3 ha.2.1.1 ha.2.1.2 (by omega)) ?_
  rintro _ w4 ⟨rfl, hw4⟩
  refine ⟨_, rfl, ?_⟩
  rw [hw4]
  have hkn : pick a.2.2.1 ((min 4 (own.length + 1) : Nat) : Int) = (kidN own a.2.2.1 : Int) := by
    have := pick_lt (n := a.2.2.1) (m := ((min 4 (own.length + 1) : Nat) : Int)) (by omega)
    unfold kidN
    omega
  rw [hkn]
  have hk := kidN_le own a.2.2.1
  refine draw_i fun w5 he5 _ _ => ?_
  have he05 := he03.trans he5
  have h5 := h.ext he05
  have hb15 := hb13.ext he5
  refine boxF (l := .int .u8) 1 (a.2.1.toNat : Int) hb15 (by rfl) ?_
  refine ptr_i (boxE (l := .slc) 2 xo h5.box (by rfl) (by rfl) ?_)
  refine ptr_i (boxE (l := .slc) 2 xo h5.box (by rfl) (by rfl) ?_)
  have e3 : IntKind.wrap .i64 (((xo.2.1 : Nat) : Int) - (kidN own a.2.2.1 : Int)) = ((own.length - kidN own a.2.2.1 : Nat) : Int) := by rw [wrap_i64 (by omega) (by omega)]; omega
  rw [e3, Int.toNat_natCast]
  refine guard_i (by omega) ?_
  refine boxF (l := .str) 4 a.2.2.2.2 hb15 (by rfl) ?_
  have hsl := (h5.ro.sl).cut (l := own.length - kidN own a.2.2.1) (k := xo.2.1 - (own.length - kidN own a.2.2.1)) (m := xo.2.2) (z := 1) rfl (by omega) (by omega)
  rw [List.take_of_length_le (by rw [List.length_drop]; omega)] at hsl
  refine callW_of (own_u32 hsl (by omega)) ?_
  rintro _ w6 ⟨y, rfl, hoy, he6⟩
  refine ⟨y, rfl, ?_⟩
  have hb16 := hb15.ext he6
  refine ⟨fun l hl q hq => ?_, ?_⟩
  · simp only [List.mem_cons, List.not_mem_nil, or_false] at hl
    rcases hl with rfl | rfl <;> (simp only [List.mem_cons, List.not_mem_nil, or_false] at hq; subst hq)
    · exact boxC hb16 (o := 4) (by rfl) (by rfl)
    · exact boxC hb16 (o := 1) (by rfl) (by rfl)
  rw [tag_wrap]
  have he06 := he05.trans he6
  have hs1 := he1.size
  refine setP (pageP own a) y (((hb2.ext he3).ext he5).ext he6) rfl rfl ?_
  intro w7 hb7 hx7 hk7 hz7
  refine ⟨y, rfl, ?_, hx7 w he06 (by omega)⟩
  have h06 := he05.size
  have oc : Only (fun k => k = r2) w6 w7 := ⟨(hx7 w he06 (by omega)).os.trans he06.os.symm, (hx7 w he06 (by omega)).tape.trans he06.tape.symm, (hx7 w he06 (by omega)).output.trans he06.output.symm, by omega, fun k _ hk => hk7 k hk⟩
  have hs02 := he02.size
  have hs3 := he3.size
  have hs5 := he5.size
  exact (hoy.only oc (fun j hj e => by have := hoy.row j hj; have : j = r2 := e; omega)).lower (by omega)
def act0 : ActV := (0, 0, 0, 0, ByteArray.empty)
theorem light_calls {w : World} {A : Option Addr} {n c : Nat} {acts : List ActV} (h : Sli actE w A n acts) :
    Calls Tryz.prog 29 #[.slice A n c] w (Ret fun v w' => (v = .bool true ∧ n ≤ 60 ∧ (∀ a ∈ acts, a.2.2.2.2.size ≤ 600) ∨ v = .bool false) ∧ w' = w) := by
  apply calls29
  unfold S29
  have hl := h.len
  have hle := h.le
  refine loopW_i (fun y w' => ∃ i : Nat, i ≤ n ∧ y = ((i : Int), ()) ∧ w' = w ∧ ∀ a ∈ acts.take i, a.2.2.2.2.size ≤ 600) (fun y => (n - y.1).toNat) ⟨0, by omega, rfl, rfl, by simp⟩ ?_
  rintro _ w1 ⟨i, hi, rfl, rfl, hall⟩
  dsimp only
  by_cases hlt : i < n
  · refine splitW_t (decide_eq_true (by omega)) ?_
    have hil : i < acts.length := by omega
    have hai : acts[i]? = some acts[i] := List.getElem?_eq_getElem hil
    refine idx_f (l := .str) 4 (fun a : ActV => a.2.2.2.2) act0 h (fun _ => rfl) rfl (by omega) (by omega) ?_
    rw [Int.toNat_natCast]
    have hg : acts.getD i act0 = acts[i] := by rw [List.getD_eq_getElem?_getD, hai]; rfl
    rw [hg]
    refine splitW_i (fun hq => ⟨.inr rfl, rfl⟩) (fun hq => ?_)
    have hq := of_decide_eq_false hq
    refine ⟨⟨i + 1, by omega, by rw [wrap_i64 (by omega) (by omega)]; rfl, rfl, fun a ha => ?_⟩, by rw [wrap_i64 (by omega) (by omega)]; omega⟩
    rw [List.take_add_one, hai] at ha
    simp only [Option.toList_some, List.mem_append, List.mem_singleton] at ha
    rcases ha with e | rfl
    · exact hall a e
    · omega
  · refine splitW_f (decide_eq_false (by omega)) ?_
    rw [List.take_of_length_le (by omega)] at hall
    refine ⟨?_, rfl⟩
    by_cases h60 : n ≤ 60
    · exact .inl ⟨by rw [decide_eq_true (by omega)], h60, hall⟩
    · exact .inr (by rw [decide_eq_false (by omega)])
end Go.Proofs.YtjdmggaeagnolaaGreat.V
/- Law 13: what stays true of a run: plain. -/
set_option linter.unusedVariables false
set_option linter.unusedSimpArgs false
namespace Go.Proofs.YtjdmggaeagnolaaGreat.V
open Go Go.Proofs Go.RowKit Crc
theorem kids_le {S : Spa} (n : Nat) : (kidsP S.page n).length ≤ 1024 := pageR_kids.1
theorem cnt_small {S : Spa} {R : List Nat} (h : Good S R) {n : Nat} (hn : usedC S.sup.pages S.now n = true) : S.now.getD n 0 ≤ R.count n + S.N * 1024 := by
  obtain ⟨a1, a2, a3⟩ := usedC_iff.1 hn
  rw [h.well.sum n a1 a2]
  have : sumC S.N S.sup.pages S.page S.now n ≤ S.N * 1024 := by
    refine sum_le' S.N (fun m _ => ?_)
    unfold refC
    split
    · exact Nat.le_trans List.count_le_length (kids_le m)
    · omega
  omega
structure Inv (z : Int) (N P : Nat) (S : Spa) (own held mark : List Nat) (mk : Bool) (root i : Nat) : Prop where
  gr : Great S own held (if mk then some mark else none)
  rt : S.sup.root = root ∧ (root = 0 ∨ usedC S.sup.pages S.held root = true)
  gen : S.sup.gen ≤ 1 + i
  pl : S.dev.pen.length ≤ i
  pw : ∀ p ∈ S.dev.pen, 2 ≤ p.1 ∧ S.held.getD p.1.toNat 0 = 0
  lo : own.length ≤ i
  lh : held.length ≤ i
  lm : mark.length ≤ i
  sz : S.sup.size = z
  bl : S.sup.blocks = (N : Int)
  np : S.sup.pages.length = P
variable {z : Int} {N P : Nat} {S S' : Spa} {own held mark : List Nat} {mk : Bool} {root i : Nat}
theorem Inv.more (h : Inv z N P S own held mark mk root i) {j : Nat} (hij : i ≤ j) : Inv z N P S own held mark mk root j :=
  { h with gen := by have := h.gen; omega, pl := Nat.le_trans h.pl hij, lo := Nat.le_trans h.lo hij, lh := Nat.le_trans h.lh hij, lm := Nat.le_trans h.lm hij }
theorem Inv.n (h : Inv z N P S own held mark mk root i) : S.N = N := by unfold Spa.N; rw [h.bl]; omega
theorem Inv.put {n k : Nat} {p : Page} (h : Inv z N P S own held mark mk root i) (ho : PutOk S S' p n) (hg : Great S' (n :: own.take k) held (if mk then some mark else none)) (hpen : ∀ q ∈ S'.dev.pen, q ∈ S.dev.pen ∨ q.1 = (n : Int)) :
    Inv z N P S' (own.take k ++ [n]) held mark mk root (i + 1) := by
  refine ⟨hg.perm (List.perm_append_singleton n (own.take k)).symm, ?_, ?_, ?_, ?_, ?_, Nat.le_succ_of_le h.lh, Nat.le_succ_of_le h.lm, ?_, ?_, ?_⟩
  · rw [ho.sup, ho.held]; exact h.rt
  · rw [ho.sup]; have := h.gen; omega
  · rw [ho.pen]; have := h.pl; omega
  · intro q hq
    rw [ho.held]
    rcases hpen q hq with e | e
    · exact h.pw q e
    · have := ho.two
      refine ⟨by omega, ?_⟩
      rw [show q.1.toNat = n by omega]
      exact (isFree_iff.1 ho.free).2.1
  · have := h.lo
    rw [List.length_append, List.length_take, List.length_singleton]
    omega
  · rw [ho.sup]; exact h.sz
  · rw [ho.sup]; exact h.bl
  · rw [ho.sup]; exact h.np
/-- Only the counts have changed. -/
theorem Inv.now {c own' : List Nat} (h : Inv z N P S own held mark mk root i) (hg : Great { S with now := c } own' held (if mk then some mark else none)) (hl : own'.length ≤ i + 1) : Inv z N P { S with now := c } own' held mark mk root (i + 1) :=
  ⟨hg, h.rt, by have := h.gen; show S.sup.gen ≤ _; omega, Nat.le_succ_of_le h.pl, h.pw, hl, Nat.le_succ_of_le h.lh, Nat.le_succ_of_le h.lm, h.sz, h.bl, h.np⟩
theorem Inv.abort (h : Inv z N P S own held mark mk root i) : Inv z N P { S with now := S.held, mark := none } held held mark false root (i + 1) :=
  ⟨great_abort h.gr, h.rt, by have := h.gen; show S.sup.gen ≤ _; omega, Nat.le_succ_of_le h.pl, h.pw, Nat.le_succ_of_le h.lh, Nat.le_succ_of_le h.lh, Nat.le_succ_of_le h.lm, h.sz, h.bl, h.np⟩
theorem Inv.nomark (h : Inv z N P S own held mark false root i) : S.mark = none := (h.gr.mwell.none_iff).2 rfl
theorem Inv.marked (h : Inv z N P S own held mark true root i) : ∃ l, S.mark = some l := by
  cases hq : S.mark with
  | some l => exact ⟨l, rfl⟩
  | none => have := (h.gr.mwell.none_iff).1 hq; cases this
theorem Inv.mark_ (h : Inv z N P S own held mark false root i) : Inv z N P { S with mark := some S.now } own held own true root (i + 1) :=
  ⟨great_mark h.gr, h.rt, by have := h.gen; show S.sup.gen ≤ _; omega, Nat.le_succ_of_le h.pl, h.pw, Nat.le_succ_of_le h.lo, Nat.le_succ_of_le h.lh, Nat.le_succ_of_le h.lo, h.sz, h.bl, h.np⟩
theorem Inv.back (h : Inv z N P S own held mark true root i) {l : List Nat} (hm : S.mark = some l) : Inv z N P { S with now := l, mark := none } mark held mark false root (i + 1) :=
  ⟨great_back h.gr hm, h.rt, by have := h.gen; show S.sup.gen ≤ _; omega, Nat.le_succ_of_le h.pl, h.pw, Nat.le_succ_of_le h.lm, Nat.le_succ_of_le h.lh, Nat.le_succ_of_le h.lm, h.sz, h.bl, h.np⟩
theorem Inv.done (h : Inv z N P S own held mark true root i) : Inv z N P { S with mark := none } own held mark false root (i + 1) :=
  ⟨great_done h.gr, h.rt, by have := h.gen; show S.sup.gen ≤ _; omega, Nat.le_succ_of_le h.pl, h.pw, Nat.le_succ_of_le h.lo, Nat.le_succ_of_le h.lh, Nat.le_succ_of_le h.lm, h.sz, h.bl, h.np⟩
theorem Inv.commit (h : Inv z N P S own held mark mk root i) {rt : Nat} (hrt : rt = 0 ∨ rt ∈ own) (hc : ComOk S S' rt own) : Inv z N P S' own own mark false rt (i + 1) := by
  have hns : S.ns.length = S.sup.pages.length := by
    have := h.gr.room
    unfold Spa.ns
    rw [List.length_take]
    unfold Spa.freeN at this
    omega
  refine ⟨hc.great, ⟨by rw [hc.sup]; rfl, ?_⟩, by rw [hc.sup]; have := h.gen; show S.sup.gen + 1 ≤ _; omega, by rw [hc.pen]; exact Nat.zero_le _, (fun p hp => by rw [hc.pen] at hp; cases hp), Nat.le_succ_of_le h.lo, Nat.le_succ_of_le h.lo, Nat.le_succ_of_le h.lm, by rw [hc.sup]; exact h.sz, by rw [hc.sup]; exact h.bl, by rw [hc.sup]; exact hns.trans h.np⟩
  rcases hrt with e | e
  · exact .inl e
  · exact .inr (hc.great.hwell.root rt e)
theorem Inv.format {size : Int} {N : Nat} (hg : geoOK size (N : Int) = true) (hchk : chk (fmtS size N) = 0) : Inv size N (fmtN size N) (formatS (dev0 size (N : Int))) [] [] [] false 0 0 := by
  have e : (dev0 size (N : Int)).blocks.toNat = N := by show ((N : Int)).toNat = N; omega
  obtain ⟨g1, g2, g3⟩ := great_format (d := dev0 size (N : Int)) (devG0 hg) (by rw [e]; exact hchk)
  refine ⟨g2, ⟨rfl, .inl rfl⟩, Nat.le_refl _, by rw [g3]; exact Nat.le_refl _, (fun p hp => by rw [g3] at hp; cases hp), Nat.le_refl _, Nat.le_refl _, Nat.le_refl _, rfl, ?_, ?_⟩
  · show (((dev0 size (N : Int)).blocks.toNat : Nat) : Int) = _
    rw [e]
  · show (fmtP (fmtN size (dev0 size (N : Int)).blocks.toNat)).length = _
    rw [fmtP_length, e]
end Go.Proofs.YtjdmggaeagnolaaGreat.V
/- Law 13: an act, done. -/
set_option linter.unusedVariables false
set_option linter.unusedSimpArgs false
namespace Go.Proofs.YtjdmggaeagnolaaGreat.V
open Go Go.Proofs Go.RowKit Crc
def DoR (w0 : World) (r db : Nat) (z : Int) (N P i : Nat) (w : World) : Prop :=
  ∃ b S F xo xh xm own held mark mk root, RunX w0 w r db b S F xo xh xm own held mark mk root ∧ Inv z N P S own held mark mk root i
variable {w0 w w' : World} {r db b : Nat} {S : Spa} {F : Nat → Prop} {xo xh xm : SLC} {own held mark : List Nat} {mk : Bool} {root : Nat} {z : Int} {N P i : Nat}
theorem RunX.fresh {l : List Nat} {y : SLC} (h : RunX w0 w r db b S F xo xh xm own held mark mk root) (ho : Owni (numE .u32) 35 w' w.heap.size y.1 y.2.1 y.2.2 l) : RowN w' F r y l :=
  RowN.of (A := y.1) (n := y.2.1) (c := y.2.2) ho (fun k hk => h.sp.lt k hk) h.box.lt
theorem mark_run (h : RunX w0 w r db b S F xo xh xm own held mark mk root) (hi : Inv z N P S own held mark mk root i) (hi6 : i ≤ 100) (n : Int) :
    Calls Tryz.prog 71 #[.pointer (some ⟨r, 0, none⟩), .int .i64 n] w (Ret fun v w' => v = .int .i64 0 ∧ DoR w0 r db z N P (i + 1) w') := by
  have l1 := hi.lo
  have l2 := hi.lh
  have l3 := hi.lm
  apply calls71
  unfold S71
  refine ptr_i (boxE (l := .bool) 5 mk h.box (by rfl) (by rfl) ?_)
  cases mk with
  | false =>
    refine splitW_t (by rfl) ?_
    refine ptr_i (boxE (l := .slc) 2 xo h.box (by rfl) (by rfl) ?_)
    refine callW_of (own_u32 h.ro.sl (by have := h.ro.sl.len; omega)) ?_
    rintro _ w1 ⟨y, rfl, hoy, he1⟩
    refine ⟨y, rfl, ?_⟩
    have h1 := h.ext he1
    have hy := h.fresh hoy
    refine ptr_i (stE h1.box rfl (by simp [runV]) fun w2 hb2 o2 => ?_)
    refine ptr_i (stE hb2 rfl (by simp [runV]) fun w3 hb3 o3 => ?_)
    have h3 : RunX w0 w3 r db b S F xo xh y own held own true root := h1.set (Only.trans o2 o3 (fun j hj => .inl hj)) hb3 h1.ro h1.rh hy
    refine ptr_i (boxE (l := .ptr) 1 (some ⟨b, 0, none⟩) h3.box (by rfl) (by rfl) ?_)
    refine callW_of (sp_mark h3.sp hi.nomark) ?_
    rintro _ w4 ⟨rfl, hst⟩
    refine ⟨_, rfl, rfl, ?_⟩
    obtain ⟨F', h4⟩ := h3.step hst
    exact ⟨b, _, F', xo, xh, y, own, held, own, true, root, h4, hi.mark_⟩
  | true =>
    refine splitW_f (by rfl) ?_
    obtain ⟨l, hml⟩ := hi.marked
    refine splitW_i (fun _ => ?_) (fun _ => ?_)
    · refine ptr_i (boxE (l := .slc) 4 xm h.box (by rfl) (by rfl) ?_)
      refine callW_of (own_u32 h.rm.sl (by have := h.rm.sl.len; omega)) ?_
      rintro _ w1 ⟨y, rfl, hoy, he1⟩
      refine ⟨y, rfl, ?_⟩
      have h1 := h.ext he1
      have hy := h.fresh hoy
      refine ptr_i (stE h1.box rfl (by simp [runV]) fun w2 hb2 o2 => ?_)
      refine ptr_i (stE hb2 rfl (by simp [runV]) fun w3 hb3 o3 => ?_)
      have h3 : RunX w0 w3 r db b S F y xh xm mark held mark false root := h1.set (Only.trans o2 o3 (fun j hj => .inl hj)) hb3 hy h1.rh h1.rm
      refine ptr_i (boxE (l := .ptr) 1 (some ⟨b, 0, none⟩) h3.box (by rfl) (by rfl) ?_)
      refine callW_of (sp_back h3.sp hml) ?_
      rintro _ w4 ⟨rfl, hst⟩
      refine ⟨_, rfl, rfl, ?_⟩
      obtain ⟨F', h4⟩ := h3.step hst
      exact ⟨b, _, F', y, xh, xm, mark, held, mark, false, root, h4, hi.back hml⟩
    · refine ptr_i (stE h.box rfl (by simp [runV]) fun w3 hb3 o3 => ?_)
      have h3 : RunX w0 w3 r db b S F xo xh xm own held mark false root := h.set o3 hb3 h.ro h.rh h.rm
      refine ptr_i (boxE (l := .ptr) 1 (some ⟨b, 0, none⟩) h3.box (by rfl) (by rfl) ?_)
      refine callW_of (sp_done h3.sp hml) ?_
      rintro _ w4 ⟨rfl, hst⟩
      refine ⟨_, rfl, rfl, ?_⟩
      obtain ⟨F', h4⟩ := h3.step hst
      exact ⟨b, _, F', xo, xh, xm, own, held, mark, false, root, h4, hi.done⟩
/-- A number behind a copy of a row, put into the run. -/
theorem own_app (h : RunX w0 w r db b S F xo xh xm own held mark mk root) {n c : Nat} {A : Option Addr} {l : List Nat} {K : SLC → WP} {v : Nat} {rb : Nat} (hs : Sli (numE .u32) w A n l) (hn : n ≤ 1000) (hb : Blk w rb [.int .u32 (v : Int)] 35)
    (hK : ∀ y w2, RowN w2 F r y (l ++ [v]) → Ext w w2 → K y w2) :
    callW Tryz.prog 70 [(.slice A n c)] (.one (.one .slc)) (fun u22 => runW Tryz.prog (Builtin.append_ #[38, 38] 38 #[(.slice u22.1 u22.2.1 u22.2.2), (.slice (some (⟨rb, 0, none⟩ : Addr)) 1 1)]) .slc K) w := by
  refine callW_of (own_u32 hs (by omega)) ?_
  rintro _ w1 ⟨y, rfl, hoy, he1⟩
  refine ⟨y, rfl, ?_⟩
  have hyl := hoy.len
  have hl := hs.len
  refine app_one hoy he1.size (hb.ext he1) (by omega) ?_
  intro A' c' w2 ho2 hx2
  exact hK _ w2 (h.fresh (y := (A', y.2.1 + 1, c')) ho2) (hx2 w he1 (Nat.le_refl _))
theorem do_run (h : RunX w0 w r db b S F xo xh xm own held mark mk root) (hi : Inv z N P S own held mark mk root i) (hi6 : i ≤ 100) (hN : N ≤ 40) {a : ActV} (ha : actQ a) (hd : a.2.2.2.2.size ≤ 600) :
    Calls Tryz.prog 31 #[.pointer (some ⟨r, 0, none⟩), .agg (actE.f a).toArray] w (Ret fun v w' => ∃ (n : Nat) (e : Int), v = .tuple #[.int .u32 (n : Int), .int .i64 e] ∧ (e = 0 ∨ e = 3 ∨ e = 9) ∧ DoR w0 r db z N P (i + 1) w') := by
  have l1 := hi.lo
  have l2 := hi.lh
  have l3 := hi.lm
  have hpl := hi.pl
  have hgen := hi.gen
  have hdim := hi.gr.good.dims
  have hNN := hi.n
  apply calls31
  unfold S31
  refine new_i fun r1 w1 hb1 he1 hr1 hz1 => ?_
  have hb1 : Blk w1 r1 (actE.f a) _ := hb1
  have h1 := h.ext he1
  refine boxF (l := .int .i64) 3 a.2.2.2.1 hb1 (by rfl) ?_
  refine callW_of (rpick_calls h1 ha.2.2.1 (by omega)) ?_
  rintro _ w2 ⟨rfl, hw2⟩
  refine ⟨_, rfl, ?_⟩
  rw [hw2]
  refine joinW_s (fun _ w' => Ext w0 w' ∧ DoR w0 r db z N P (i + 1) w') ?_ (fun J hJ => ?_)
  · rintro _ w' ⟨_, hd⟩
    exact ⟨0, 0, rfl, .inl rfl, hd⟩
  have same : DoR w0 r db z N P (i + 1) w1 := ⟨b, S, F, xo, xh, xm, own, held, mark, mk, root, h1, hi.more (Nat.le_succ i)⟩
  refine box0 (l := .int .i64) a.1 hb1 (by rfl) ?_
  refine callW_of (pick_calls w1 ha.1.1 ha.1.2 (by omega)) ?_
  rintro _ w2' ⟨rfl, hw2'⟩
  refine ⟨_, rfl, ?_⟩
  rw [hw2']
  refine joinW_s (fun y w' => y = (decide (pick a.1 10 = 0 ∨ pick a.1 10 = 1 ∨ pick a.1 10 = 2), ()) ∧ w' = w1) ?_ (fun J8 hJ8 => ?_)
  rotate_left
  · refine splitW_i (fun hq => ?_) (fun hq => splitW_i (fun hq2 => ?_) (fun hq2 => ?_))
    · rw [hq]; exact hJ8 _ _ ⟨by rw [decide_eq_true (.inl (beq_iff_eq.1 hq))], rfl⟩
    · rw [hq2]; exact hJ8 _ _ ⟨by rw [decide_eq_true (.inr (.inl (beq_iff_eq.1 hq2)))], rfl⟩
    · refine hJ8 _ _ ⟨?_, rfl⟩
      have a1 := beq_eq_false_iff_ne.1 hq
      have a2 := beq_eq_false_iff_ne.1 hq2
      refine Prod.ext ?_ rfl
      show (pick a.1 10 == 2) = _
      rw [Bool.eq_iff_iff, beq_iff_eq, decide_eq_true_iff]
      omega
  rintro _ w2'' ⟨rfl, hw2''⟩
  rw [hw2'']
  dsimp only
  have hpi := pickI_cases own a.2.2.2.1
  refine splitW_i (fun hq => ?_) (fun hq => ?_)
  · -- Put
    refine boxA (ls := [.int .i64, .int .u8, .int .i64, .int .i64, .str]) (a.1, (a.2.1.toNat : Int), a.2.2.1, a.2.2.2.1, a.2.2.2.2, ()) hb1 rfl ?_
    refine callW_of (rpage_calls h1 ha (by omega)) ?_
    rintro _ w3 ⟨y, rfl, hoy, he3⟩
    refine ⟨pgT (pageP own a) y, rfl, ?_⟩
    refine new_i fun r12 w4 hb4 he4 hr4 hz4 => ?_
    have hk := kidN_le own a.2.2.1
    have hsz3 := he3.size
    have hF4 := h1.sp.lt
    refine refill (vs := pgV (pageP own a) y) hb4 (by rfl) (pgV_one _ y) (by rfl) fun w5 hb5 hx5 hk5 hz5 => ?_
    have he15 : Ext w1 w5 := hx5 w1 (he3.trans he4) (by omega)
    refine draw_i fun w6 he6 _ _ => ?_
    have he16 := he15.trans he6
    have h6 := h1.ext he16
    have hb6 := hb5.ext he6
    have hoy6 : Owni (numE .u32) 35 w6 w1.heap.size y.1 y.2.1 y.2.2 (pageP own a).2.1 := ((hoy.ext he4).only (F := fun k => k = r12) ⟨(hx5 w3 he4 (by omega)).os.trans he4.os.symm, (hx5 w3 he4 (by omega)).tape.trans he4.tape.symm, (hx5 w3 he4 (by omega)).output.trans he4.output.symm, by omega, fun k _ hk => hk5 k hk⟩ (fun j hj e => by have := hoy.row_lt j hj; have : j = r12 := e; omega)).ext he6
    refine ptr_i (boxE (l := .ptr) 1 (some ⟨b, 0, none⟩) h6.box (by rfl) (by rfl) ?_)
    refine boxA (ls := pgLs) (pgT (pageP own a) y) hb6 rfl ?_
    have hkl : (pageP own a).2.1.length = kidN own a.2.2.1 := by unfold pageP; simp; omega
    have hperm : own.Perm ((pageP own a).2.1 ++ own.take (own.length - kidN own a.2.2.1)) := by
      have e : own = own.take (own.length - kidN own a.2.2.1) ++ (pageP own a).2.1 := (List.take_append_drop _ _).symm
      exact (List.Perm.of_eq e).trans List.perm_append_comm
    have hroom : S.room 0 = S.sup.size - 18 := by unfold Spa.room; rw [hdim.room, if_neg (by have := hdim.size; omega)]; omega
    refine callW_of (sp_put h6.sp (p := pageP own a) (hi.gr.perm hperm) (by omega) hoy6.sl (fun A hA hf => ?_) ?_ ?_ ?_) ?_
    · have := hoy6.row A.block (by rw [hA]; rfl)
      have := hF4 _ hf
      omega
    · show 3 ≤ (tagP a.2.1).toNat
      rw [tagP_nat]; omega
    · rw [hkl, hroom]; have := hdim.size; omega
    · show a.2.2.2.2.size ≤ _
      omega
    rintro _ w7 ⟨S', n, e, rfl, hput, hst⟩
    refine ⟨((n : Int), e, ()), rfl, ?_⟩
    obtain ⟨F', h7⟩ := h6.step hst
    dsimp only
    rcases hput with ⟨rfl, rfl, rfl, _⟩ | ⟨rfl, rfl, rfl, _⟩ | ⟨he, hP, hG, hpen⟩
    · refine splitW_f (by rfl) ⟨0, 3, rfl, .inr (.inl rfl), b, _, F', xo, xh, xm, own, held, mark, mk, root, h7, hi.more (Nat.le_succ i)⟩
    · refine splitW_f (by rfl) ⟨0, 9, rfl, .inr (.inr rfl), b, _, F', xo, xh, xm, own, held, mark, mk, root, h7, hi.more (Nat.le_succ i)⟩
    · rw [he]
      refine splitW_t (by rfl) ?_
      have hI := hi.put hP hG hpen.1
      obtain ⟨F2, g1, g2, g3⟩ := hst
      have hb7 : Blk w7 r12 (pgV (pageP own a) y) _ := hb6.only g3 (fun hf => by
        have := hF4 _ hf
        omega)
      refine draw_i fun w8 he8 _ _ => ?_
      have h8 := h7.ext he8
      have hb8 := hb7.ext he8
      refine ptr_i (boxE (l := .slc) 2 xo h8.box (by rfl) (by rfl) ?_)
      refine ptr_i (boxE (l := .slc) 2 xo h8.box (by rfl) (by rfl) ?_)
      refine boxF (l := .slc) 1 y hb8 (by rfl) ?_
      have hol := h8.ro.sl.len
      have hcap := h8.ro.cap
      have hyl := hoy.len
      have e3 : IntKind.wrap .i64 (((xo.2.1 : Nat) : Int) - ((y.2.1 : Nat) : Int)) = ((own.length - kidN own a.2.2.1 : Nat) : Int) := by rw [wrap_i64 (by omega) (by omega)]; omega
      rw [e3, Int.toNat_natCast]
      refine guard_i (by omega) ?_
      have hsl := (h8.ro.sl).cut0 (k := own.length - kidN own a.2.2.1) (m := xo.2.2) (z := 1) rfl (by omega) (by omega)
      have fin : ∀ {y2 : SLC} {w9 : World}, RowN w9 F' r y2 (own.take (own.length - kidN own a.2.2.1) ++ [n]) → Ext w8 w9 → (ptrW (some ⟨r, 0, none⟩) fun p25 : Addr => stW (p25.add 2) (.slice y2.1 y2.2.1 y2.2.2) fun w' => ∃ (n' : Nat) (e' : Int), Value.tuple #[.int .u32 (n : Int), .int .i64 0] = .tuple #[.int .u32 (n' : Int), .int .i64 e'] ∧ (e' = 0 ∨ e' = 3 ∨ e' = 9) ∧ DoR w0 r db z N P (i + 1) w') w9 := by
        intro y2 w9 hr9 he9
        have h9 := h8.ext he9
        refine ptr_i (stE h9.box rfl (by simp [runV]) fun w10 hb10 o10 => ?_)
        exact ⟨n, 0, rfl, .inl rfl, b, S', F', y2, xh, xm, _, held, mark, mk, root, h9.set o10 hb10 hr9 h9.rh h9.rm, hI⟩
      have hold : ∀ {wx : World}, Ext w8 wx → HL wx [((⟨r12, 0, none⟩ : Addr).add 1, .slice y.1 y.2.1 y.2.2)] ∧ HL wx [((⟨r, 0, none⟩ : Addr).add 2, .slice xo.1 xo.2.1 xo.2.2)] := fun hx => ⟨held1F (hb8.ext hx) (by rfl), held1F (h8.box.ext hx) (by rfl)⟩
      refine ⟨?_, ?_⟩
      · refine callW_of (own_u32 hsl (by omega)) ?_
        rintro _ w9 ⟨y9, rfl, ho9, he9⟩
        refine ⟨y9, rfl, ?_⟩
        refine new_i fun r23 w10 hb10 he10 _ _ => ?_
        refine h3_i (hold (he9.trans he10)).1 (hold (he9.trans he10)).2 (hold (he9.trans he10)).2 ?_
        have h9l := ho9.len
        have htl : (own.take (own.length - kidN own a.2.2.1)).length ≤ 100 := by rw [List.length_take]; omega
        refine app_one (ho9.ext he10) (he9.trans he10).size (by exact hb10) (by omega) ?_
        intro A' c' w11 ho11 hx11
        exact fin (y2 := (A', y9.2.1 + 1, c')) (h8.fresh (y := (A', y9.2.1 + 1, c')) ho11) (hx11 w8 (he9.trans he10) (Nat.le_refl _))
      · refine new_i fun r26 w9 hb9 he9 _ _ => ?_
        refine h3_i (hold he9).1 (hold he9).2 (hold he9).2 ?_
        have htl : (own.take (own.length - kidN own a.2.2.1)).length ≤ 100 := by rw [List.length_take]; omega
        refine own_app (h8.ext he9) (hsl.ext he9) (by omega) (by exact hb9) ?_
        intro y2 w10 hr10 he10
        exact fin hr10 (he9.trans he10)
  refine splitW_i (fun hq4 => ?_) (fun hq4 => ?_)
  · -- Share
    refine splitW_i (fun hu => ?_) (fun hu => ?_)
    rotate_left
    · exact hJ _ _ ⟨h1.x, same⟩
    have hu := of_decide_eq_true hu
    obtain ⟨j, hj, hjl⟩ : ∃ j : Nat, pickI own a.2.2.2.1 = (j : Int) ∧ j < own.length := by
      rcases hpi with e | e
      · omega
      · exact e
    rw [hj]
    have hxl := h1.ro.sl.len
    have hmem : own.getD j 0 ∈ own := by rw [List.getD_eq_getElem?_getD, List.getElem?_eq_getElem hjl]; exact List.getElem_mem _
    have hused := hi.gr.good.well.root _ hmem
    have hlt := hi.gr.good.well.lt hused
    refine draw_i fun w3 he3 _ _ => ?_
    have h3 := h1.ext he3
    refine ptr_i (boxE (l := .ptr) 1 (some ⟨b, 0, none⟩) h3.box (by rfl) (by rfl) ?_)
    refine ptr_i (boxE (l := .slc) 2 xo h3.box (by rfl) (by rfl) ?_)
    refine idx_num h3.ro.sl (by omega) (by omega) ?_
    rw [Int.toNat_natCast]
    have hsm := cnt_small hi.gr.good hused
    have hcl : own.count (own.getD j 0) ≤ own.length := List.count_le_length
    have h65 : S.now.getD (own.getD j 0) 0 < 65535 := by rw [hNN] at hsm; omega
    refine callW_of (sp_share h3.sp hi.gr hused h65) ?_
    rintro _ w4 ⟨rfl, hG, hst⟩
    refine ⟨_, rfl, splitW_t (by rfl) ?_⟩
    obtain ⟨F', h4⟩ := h3.step hst
    have hI := hi.now (own' := own ++ [own.getD j 0]) (hG.perm (List.perm_append_singleton _ own).symm) (by rw [List.length_append, List.length_singleton]; omega)
    refine draw_i fun w5 he5 _ _ => ?_
    have h5 := h4.ext he5
    refine ptr_i (boxE (l := .slc) 2 xo h5.box (by rfl) (by rfl) ?_)
    refine ptr_i (boxE (l := .slc) 2 xo h5.box (by rfl) (by rfl) ?_)
    have fin : ∀ {y2 : SLC} {w9 : World}, RowN w9 F' r y2 (own ++ [own.getD j 0]) → Ext w5 w9 → (ptrW (some ⟨r, 0, none⟩) fun p25 : Addr => stW (p25.add 2) (.slice y2.1 y2.2.1 y2.2.2) fun w' => ∃ (n' : Nat) (e' : Int), Value.tuple #[.int .u32 (0 : Int), .int .i64 0] = .tuple #[.int .u32 (n' : Int), .int .i64 e'] ∧ (e' = 0 ∨ e' = 3 ∨ e' = 9) ∧ DoR w0 r db z N P (i + 1) w') w9 := by
      intro y2 w9 hr9 he9
      have h9 := h5.ext he9
      refine ptr_i (stE h9.box rfl (by simp [runV]) fun w10 hb10 o10 => ?_)
      exact ⟨0, 0, rfl, .inl rfl, b, _, F', y2, xh, xm, _, held, mark, mk, root, h9.set o10 hb10 hr9 h9.rh h9.rm, hI⟩
    have hx5 : own[j]? = some (own.getD j 0) := by rw [List.getD_eq_getElem?_getD, List.getElem?_eq_getElem hjl]; rfl
    obtain ⟨pa, hpa, hsp, hcl5⟩ := h5.ro.sl.at_ hx5
    have hcell : w5.cell? (pa.add (Int.toNat ((j : Nat) : Int) * 1)) = some (.int .u32 ((own.getD j 0 : Nat) : Int)) := by
      have := hcl5.1
      rw [add_zero] at this
      exact this
    refine guard_i (by omega) ⟨pa, hpa, _, hcell, ?_⟩
    have hold : ∀ {wx : World}, Ext w5 wx → HL wx [(pa.add (Int.toNat ((j : Nat) : Int) * 1), .int .u32 ((own.getD j 0 : Nat) : Int))] ∧ HL wx [((⟨r, 0, none⟩ : Addr).add 2, .slice xo.1 xo.2.1 xo.2.2)] := fun hx => ⟨fun q hq => by rw [List.mem_singleton.1 hq]; exact hx.cell hcell, held1F (h5.box.ext hx) (by rfl)⟩
    refine ⟨?_, ?_⟩
    · refine callW_of (own_u32 h5.ro.sl (by omega)) ?_
      rintro _ w9 ⟨y9, rfl, ho9, he9⟩
      refine ⟨y9, rfl, ?_⟩
      refine h2_i (hold he9).1 (hold he9).2 ?_
      refine new_i fun r23 w10 hb10 he10 _ _ => ?_
      refine h1_i (hold (he9.trans he10)).2 ?_
      have h9l := ho9.len
      refine app_one (ho9.ext he10) (he9.trans he10).size (by exact hb10) (by omega) ?_
      intro A' c' w11 ho11 hx11
      exact fin (y2 := (A', y9.2.1 + 1, c')) (h5.fresh (y := (A', y9.2.1 + 1, c')) ho11) (hx11 w5 (he9.trans he10) (Nat.le_refl _))
    · refine new_i fun r26 w9 hb9 he9 _ _ => ?_
      refine h1_i (hold he9).2 ?_
      refine callW_of (own_u32 (h5.ro.sl.ext he9) (by omega)) ?_
      rintro _ w10 ⟨y9, rfl, ho9, he10⟩
      refine ⟨y9, rfl, ?_⟩
      refine h2_i (hold (he9.trans he10)).1 (hold (he9.trans he10)).2 ?_
      have h9l := ho9.len
      refine app_one ho9 he10.size (by exact hb9.ext he10) (by omega) ?_
      intro A' c' w11 ho11 hx11
      exact fin (y2 := (A', y9.2.1 + 1, c')) ((h5.ext he9).fresh (y := (A', y9.2.1 + 1, c')) ho11) (he9.trans (hx11 w9 he10 (Nat.le_refl _)))
  refine splitW_i (fun hq5 => ?_) (fun hq5 => ?_)
  · -- Drop
    refine splitW_i (fun hu => ?_) (fun hu => ?_)
    rotate_left
    · exact hJ _ _ ⟨h1.x, same⟩
    have hu := of_decide_eq_true hu
    obtain ⟨j, hj, hjl⟩ : ∃ j : Nat, pickI own a.2.2.2.1 = (j : Int) ∧ j < own.length := by
      rcases hpi with e | e
      · omega
      · exact e
    rw [hj]
    have hxl := h1.ro.sl.len
    have hmem : own.getD j 0 ∈ own := by rw [List.getD_eq_getElem?_getD, List.getElem?_eq_getElem hjl]; exact List.getElem_mem _
    have hused := hi.gr.good.well.root _ hmem
    have hlt := hi.gr.good.well.lt hused
    have hgd : own.getD j 0 = own[j] := by rw [List.getD_eq_getElem?_getD, List.getElem?_eq_getElem hjl]; rfl
    have hperm : own.Perm (own.getD j 0 :: (own.take j ++ own.drop (j + 1))) := by
      have e : own = own.take j ++ own.getD j 0 :: own.drop (j + 1) := by rw [hgd, ← List.drop_eq_getElem_cons hjl, List.take_append_drop]
      exact (List.Perm.of_eq e).trans List.perm_middle
    refine draw_i fun w3 he3 _ _ => ?_
    have h3 := h1.ext he3
    refine ptr_i (boxE (l := .ptr) 1 (some ⟨b, 0, none⟩) h3.box (by rfl) (by rfl) ?_)
    refine ptr_i (boxE (l := .slc) 2 xo h3.box (by rfl) (by rfl) ?_)
    refine idx_num h3.ro.sl (by omega) (by omega) ?_
    rw [Int.toNat_natCast]
    refine callW_of (sp_drop h3.sp (hi.gr.perm hperm)) ?_
    rintro _ w4 ⟨rfl, c', hG, hst, _, _⟩
    refine ⟨_, rfl, ?_⟩
    obtain ⟨F', h4⟩ := h3.step hst
    have hI := hi.now (own' := own.take j ++ own.drop (j + 1)) hG (by rw [List.length_append, List.length_take, List.length_drop]; omega)
    refine draw_i fun w5 he5 _ _ => ?_
    have h5 := h4.ext he5
    have hcap := h5.ro.cap
    refine ptr_i (boxE (l := .slc) 2 xo h5.box (by rfl) (by rfl) ?_)
    refine guard_i (by omega) ?_
    refine ptr_i (boxE (l := .slc) 2 xo h5.box (by rfl) (by rfl) ?_)
    have e1 : IntKind.wrap .i64 (((j : Nat) : Int) + 1) = ((j + 1 : Nat) : Int) := by rw [wrap_i64 (by omega) (by omega)]; omega
    rw [e1, Int.toNat_natCast]
    refine guard_i (by omega) ?_
    have hs1 := (h5.ro.sl).cut0 (k := j) (m := xo.2.2) (z := 1) rfl (by omega) (by omega)
    have hs2 := (h5.ro.sl).cut (l := j + 1) (k := xo.2.1 - (j + 1)) (m := xo.2.2) (z := 1) rfl (by omega) (by omega)
    rw [List.take_of_length_le (by rw [List.length_drop]; omega)] at hs2
    refine callW_of (own_u32 hs1 (by omega)) ?_
    rintro _ w6 ⟨y6, rfl, ho6, he6⟩
    refine ⟨y6, rfl, ?_⟩
    refine h1_i (held1F (h5.box.ext he6) (by rfl)) ?_
    have h6l := ho6.len
    have htl : (own.take j).length ≤ 100 := by rw [List.length_take]; omega
    refine append_sli elem_u32 ho6 he6.size (hs2.ext he6) (by omega) (by omega) ?_
    intro A' c2 w7 ho7 hg7 _
    have he7 : Ext w5 w7 := he6.grown hg7.grown (fun q hq => ho6.row q hq)
    have h7 := h5.ext he7
    have hr7 : RowN w7 F' r (A', y6.2.1 + (xo.2.1 - (j + 1)), c2) (own.take j ++ own.drop (j + 1)) := h5.fresh (y := (A', y6.2.1 + (xo.2.1 - (j + 1)), c2)) ho7
    refine ptr_i (stE h7.box rfl (by simp [runV]) fun w8 hb8 o8 => ?_)
    exact ⟨0, 0, rfl, .inl rfl, b, _, F', _, xh, xm, _, held, mark, mk, root, h7.set o8 hb8 hr7 h7.rh h7.rm, hI⟩
  refine splitW_i (fun hq6 => ?_) (fun hq6 => ?_)
  · -- Commit
    refine joinW_s (fun y w' => ∃ rt : Nat, y = ((rt : Int), ()) ∧ (rt = 0 ∨ rt ∈ own) ∧ w' = w1) ?_ (fun J65 hJ65 => ?_)
    rotate_left
    · have z0 : J65 (0, ()) w1 := hJ65 _ _ ⟨0, rfl, .inl rfl, rfl⟩
      refine splitW_i (fun hu => ?_) (fun _ => z0)
      have hu := of_decide_eq_true hu
      obtain ⟨j, hj, hjl⟩ : ∃ j : Nat, pickI own a.2.2.2.1 = (j : Int) ∧ j < own.length := by
        rcases hpi with e | e
        · omega
        · exact e
      have hxl := h1.ro.sl.len
      have hmem : own.getD j 0 ∈ own := by rw [List.getD_eq_getElem?_getD, List.getElem?_eq_getElem hjl]; exact List.getElem_mem _
      refine boxF (l := .int .i64) 3 a.2.2.2.1 hb1 (by rfl) ?_
      refine splitW_i (fun _ => ?_) (fun _ => z0)
      rw [hj]
      refine ptr_i (boxE (l := .slc) 2 xo h1.box (by rfl) (by rfl) ?_)
      refine idx_num h1.ro.sl (by omega) (by omega) ?_
      rw [Int.toNat_natCast]
      exact hJ65 _ _ ⟨own.getD j 0, rfl, .inr hmem, rfl⟩
    rintro _ w3 ⟨rt, rfl, hrt, hw3⟩
    rw [hw3]
    dsimp only
    refine ptr_i (boxE (l := .ptr) 1 (some ⟨b, 0, none⟩) h1.box (by rfl) (by rfl) ?_)
    refine callW_of (sp_commit h1.sp hi.gr (root := rt) (hrt.imp id (fun e => hi.gr.good.well.root _ e)) (by omega) (by omega)) ?_
    rintro _ w4 ⟨rfl, hC, hst⟩
    refine ⟨_, rfl, splitW_t (by rfl) ?_⟩
    obtain ⟨F', h4⟩ := h1.step hst
    have hI := hi.commit hrt hC
    have hxl := h4.ro.sl.len
    refine ptr_i (boxE (l := .slc) 2 xo h4.box (by rfl) (by rfl) ?_)
    refine callW_of (own_u32 h4.ro.sl (by omega)) ?_
    rintro _ w5 ⟨y5, rfl, ho5, he5⟩
    refine ⟨y5, rfl, ?_⟩
    have h5 := h4.ext he5
    have hy := h4.fresh ho5
    refine ptr_i (stE h5.box rfl (by simp [runV]) fun w6 hb6 o6 => ?_)
    refine ptr_i (stE hb6 rfl (by simp [runV]) fun w7 hb7 o7 => ?_)
    refine ptr_i (stE hb7 rfl (by simp [runV]) fun w8 hb8 o8 => ?_)
    exact ⟨rt, 0, rfl, .inl rfl, b, _, F', xo, y5, xm, own, own, mark, false, rt, h5.set (Only.trans (Only.trans o6 o7 (fun j hj => .inl hj)) o8 (fun j hj => .inl hj)) hb8 h5.ro hy h5.rm, hI⟩
  refine splitW_i (fun hq7 => ?_) (fun hq7 => ?_)
  · -- Abort
    refine ptr_i (boxE (l := .ptr) 1 (some ⟨b, 0, none⟩) h1.box (by rfl) (by rfl) ?_)
    refine callW_of (sp_abort h1.sp) ?_
    rintro _ w4 ⟨rfl, hst⟩
    refine ⟨_, rfl, ?_⟩
    obtain ⟨F', h4⟩ := h1.step hst
    have hxl := h4.rh.sl.len
    refine ptr_i (boxE (l := .slc) 3 xh h4.box (by rfl) (by rfl) ?_)
    refine callW_of (own_u32 h4.rh.sl (by omega)) ?_
    rintro _ w5 ⟨y5, rfl, ho5, he5⟩
    refine ⟨y5, rfl, ?_⟩
    have h5 := h4.ext he5
    have hy := h4.fresh ho5
    refine ptr_i (stE h5.box rfl (by simp [runV]) fun w6 hb6 o6 => ?_)
    refine ptr_i (stE hb6 rfl (by simp [runV]) fun w7 hb7 o7 => ?_)
    exact ⟨0, 0, rfl, .inl rfl, b, _, F', y5, xh, xm, held, held, mark, false, root, h5.set (Only.trans o6 o7 (fun j hj => .inl hj)) hb7 hy h5.rh h5.rm, hi.abort⟩
  refine splitW_i (fun hq8 => ?_) (fun hq8 => ?_)
  · -- Mark
    refine boxF (l := .int .i64) 3 a.2.2.2.1 hb1 (by rfl) ?_
    refine callW_of (mark_run h1 hi hi6 a.2.2.2.1) ?_
    rintro _ w4 ⟨rfl, hd⟩
    exact ⟨_, rfl, 0, 0, rfl, .inl rfl, hd⟩
  refine splitW_i (fun hq9 => ?_) (fun hq9 => ?_)
  · -- Open
    refine ptr_i (boxE (l := .ptr) 0 (some ⟨db, 0, none⟩) h1.box (by rfl) (by rfl) ?_)
    refine callW_of (sp_open h1.sp hi.gr) ?_
    rintro _ w4 ⟨b', F', rfl, hS, he4, hb4, hF4⟩
    refine ⟨(some ⟨b', 0, none⟩, 0, ()), rfl, splitW_t (by rfl) ?_⟩
    have h4 := h1.ext he4
    have hxl := h4.rh.sl.len
    refine ptr_i (boxE (l := .slc) 3 xh h4.box (by rfl) (by rfl) ?_)
    refine callW_of (own_u32 h4.rh.sl (by omega)) ?_
    rintro _ w5 ⟨y5, rfl, ho5, he5⟩
    refine ⟨y5, rfl, ?_⟩
    have h5 := h4.ext he5
    have hy : RowN w5 F' r y5 held := RowN.of (A := y5.1) (n := y5.2.1) (c := y5.2.2) ho5 (fun k hk => hS.lt k hk) h4.box.lt
    refine ptr_i (stE h5.box rfl (by simp [runV]) fun w6 hb6 o6 => ?_)
    refine ptr_i (stE hb6 rfl (by simp [runV]) fun w7 hb7 o7 => ?_)
    refine ptr_i (stE hb7 rfl (by simp [runV]) fun w8 hb8 o8 => ?_)
    exact ⟨0, 0, rfl, .inl rfl, b', _, F', y5, xh, xm, held, held, mark, false, root, RunX.swap h1 (he4.trans he5) (hS.ext he5) hF4 (Only.trans (Only.trans o6 o7 (fun j hj => .inl hj)) o8 (fun j hj => .inl hj)) hb8 hy, hi.abort⟩
  exact hJ _ _ ⟨h1.x, same⟩
end Go.Proofs.YtjdmggaeagnolaaGreat.V
/- Spaces of which nothing is owned: plain. Leaves that are dropped. -/
set_option linter.unusedVariables false
set_option linter.unusedSimpArgs false
namespace Go.Proofs.YtjdmggaeagnolaaGreat.V
open Go Go.Proofs Go.RowKit Crc
theorem drp_leaf {S : Spa} {R c' : List Nat} {n : Nat} (hg : Good S (n :: R)) (h1 : S.now.getD n 0 = 1) (hk : kidsP S.page n = []) (hD : Drp S.asked S.page S.now [n] c' 0) : c' = S.now.set n 0 := by
  have hu := hg.well.root n List.mem_cons_self
  rcases hD.inv with ⟨a1, _⟩ | ⟨a1, _⟩ | ⟨_, _, _, a1⟩ | ⟨_, _, _, a1, _⟩ | ⟨_, _, _, a1⟩
  · exact absurd h1 a1
  · exact absurd h1 a1
  · cases a1
  · exact absurd rfl a1
  · rw [hk] at a1
    rw [subL_used hg.well hu, h1] at a1
    cases a1
    rfl
/-- A leaf that was put, and is dropped: as it was. -/
theorem put_drop {S S' : Spa} {p : Page} {n : Nat} {c' : List Nat} (h : PutOk S S' p n) (hl : S.now.length = S.N) (hc : c' = S'.now.set n 0) : c' = S.now ∧ ({ S' with now := c' } : Spa).freeN = S.freeN := by
  have h0 := (isFree_iff.1 h.free).1
  have hn := h.lt
  have e : c' = S.now := by
    rw [hc, h.now, List.set_set]
    refine list_ext_getD (by rw [List.length_set]) (fun k => ?_)
    rw [getD_setN]
    split
    · rename_i hh
      rw [← hh.1]
      exact h0.symm
    · rfl
  refine ⟨e, ?_⟩
  subst e
  unfold Spa.freeN Spa.freeL Spa.isFree Spa.N
  show ((List.range S'.sup.blocks.toNat).filter fun n => decide (2 ≤ n) && (S.now.getD n 0 == 0 && S'.held.getD n 0 == 0 && cnt S'.mark n == 0)).length = _
  rw [h.sup, h.held, h.mark]
end Go.Proofs.YtjdmggaeagnolaaGreat.V
/- Law 13: the spaces that all begin with; the chapter's first example. -/
set_option linter.unusedVariables false
set_option linter.unusedSimpArgs false
namespace Go.Proofs.YtjdmggaeagnolaaGreat.V
open Go Go.Proofs Go.RowKit Crc
theorem made_calls (w : World) (size blocks : Int) : Calls Tryz.prog 8 #[.agg #[.int .i64 size, .int .i64 blocks]] w (Ret fun v w' => (∃ p, v = .tuple #[.pointer p, .pointer none] ∧ Ext w w') ∨
    (geoOK size blocks = true ∧ chk (fmtS size blocks.toNat) = 0 ∧ ∃ db b, v = .tuple #[.pointer (some ⟨db, 0, none⟩), .pointer (some ⟨b, 0, none⟩)] ∧ At w w' b db (formatS (dev0 size blocks)))) := by
  apply calls8
  unfold S8
  refine new_i fun r1 w1 hb1 he1 hr1 _ => ?_
  refine boxA (ls := [.int .i64, .int .i64]) (size, blocks, ()) hb1 rfl ?_
  refine callW_of (dnew_calls w1 size blocks) ?_
  rintro _ w2 (⟨hg, db, rfl, hd⟩ | ⟨hg, rfl, he2⟩)
  · refine ⟨(some ⟨db, 0, none⟩, 0, ()), rfl, ?_⟩
    refine callW_of (at_format (hd.pre he1) (devG0 hg) (by show ([] : List (Int × ByteArray)).length ≤ _; simp)) ?_
    rintro _ w3 (⟨hne, rfl, he3⟩ | ⟨hok, b, rfl, hat⟩)
    · exact ⟨(none, _, ()), rfl, splitW_t (bne_iff_ne.2 hne) (.inl ⟨_, rfl, he3⟩)⟩
    · refine ⟨(some ⟨b, 0, none⟩, 0, ()), rfl, splitW_f (by rfl) (.inr ⟨hg, ?_, db, b, rfl, hat⟩)⟩
      by_cases hc : chk (fmtS size blocks.toNat) = 0
      · exact hc
      · have : (formatD (dev0 size blocks)).2 = chk (fmtS size blocks.toNat) := by
          unfold formatD
          rw [if_pos (show chk (fmtS (dev0 size blocks).size (dev0 size blocks).blocks.toNat) ≠ 0 from hc)]
          rfl
        rw [this] at hok
        exact hok
  · refine ⟨(none, 2, ()), rfl, ?_⟩
    refine callW_of (format_nil w2) ?_
    rintro _ w3 ⟨rfl, hw3⟩
    rw [hw3]
    exact ⟨(none, 1, ()), rfl, splitW_t (by rfl) (.inl ⟨_, rfl, he1.trans he2⟩)⟩
/-- A run begins. -/
theorem begin_calls (w : World) (size blocks : Int) : Calls Tryz.prog 30 #[.agg #[.int .i64 size, .int .i64 blocks]] w (Ret fun v w' => (v = .pointer none ∧ Ext w w') ∨
    (geoOK size blocks = true ∧ chk (fmtS size blocks.toNat) = 0 ∧ ∃ r db b F, v = .pointer (some ⟨r, 0, none⟩) ∧ RunX w w' r db b (formatS (dev0 size blocks)) F (none, 0, 0) (none, 0, 0) (none, 0, 0) [] [] [] false 0)) := by
  apply calls30
  unfold S30
  refine new_i fun r1 w1 hb1 he1 hr1 _ => ?_
  refine boxA (ls := [.int .i64, .int .i64]) (size, blocks, ()) hb1 rfl ?_
  refine callW_of (made_calls w1 size blocks) ?_
  rintro _ w2 (⟨p, rfl, he2⟩ | ⟨hg, hc, db, b, rfl, F, hS, hF, hx⟩)
  · exact ⟨(p, none, ()), rfl, splitW_t (by rfl) (.inl ⟨rfl, he1.trans he2⟩)⟩
  · refine ⟨(some ⟨db, 0, none⟩, some ⟨b, 0, none⟩, ()), rfl, splitW_f (by rfl) ?_⟩
    refine new_i fun r4 w4 hb4 he4 hr4 _ => ?_
    have h02 := he1.trans hx
    have hs := h02.size
    refine .inr ⟨hg, hc, r4, db, b, F, rfl, hb4, hS.ext he4, fun k hk => Nat.le_trans he1.size (hF k hk), ⟨by omega, fun hf => ?_⟩, RowN.nil _ _ _, RowN.nil _ _ _, RowN.nil _ _ _, h02.trans he4⟩
    have := hS.lt _ hf
    omega
theorem nat_of_geo {size blocks : Int} (h : geoOK size blocks = true) : ∃ N : Nat, blocks = (N : Int) := by
  obtain ⟨g1, g2, g3, g4, g5⟩ := geo_dims h
  exact ⟨blocks.toNat, by omega⟩
def S0 : Spa := formatS (dev0 128 12)
theorem geo0 : geoOK 128 12 = true := by decide
theorem fmtN0 : fmtN 128 12 = 1 := by decide
theorem chk0 : chk (fmtS 128 12) = 0 := by
  have h := chk_fmt (size := 128) (N := 12) geo0
  rw [h, fmtN0]
  decide
theorem s0_great : Great S0 [] [] none ∧ S0.dev.pen = [] := (great_format (devG0 geo0) chk0).2
theorem s0_sup : S0.sup = fmtS 128 12 := rfl
theorem s0_pages : S0.sup.pages = [2] := by rw [s0_sup]; show fmtP (fmtN 128 12) = [2]; rw [fmtN0]; rfl
theorem s0_room (k : Int) : S0.room k = if k < 0 ∨ k > 27 then 0 else 110 - 4 * k := by
  unfold Spa.room
  rw [s0_sup]
  have : roomOf (fmtS 128 12).size - 2 = 110 := by decide
  rw [this]
  rfl
theorem s0_freeL : S0.freeL = [3, 4, 5, 6, 7, 8, 9, 10, 11] := by
  unfold Spa.freeL Spa.isFree Spa.N
  show ((List.range (Int.toNat 12)).filter fun n => decide (2 ≤ n) && ((fmtC 12 (fmtN 128 12)).getD n 0 == 0 && (fmtC 12 (fmtN 128 12)).getD n 0 == 0 && cnt none n == 0)) = _
  rw [fmtN0]
  decide
theorem small_calls (w : World) : Calls Tryz.prog 9 #[] w (Ret fun v w' => v = .agg #[.int .i64 128, .int .i64 12] ∧ Ext w w') := by
  apply calls9
  unfold S9
  refine new_i fun r1 w1 hb1 he1 hr1 _ => ?_
  refine refill (vs := [.int .i64 128, .int .i64 12]) hb1 (by rfl) (fun v hv => by
    simp only [List.mem_cons, List.not_mem_nil, or_false] at hv
    rcases hv with rfl | rfl <;> rfl) (by rfl) (fun w' hb' hx hs hz => ?_)
  refine boxA (ls := [.int .i64, .int .i64]) (128, 12, ()) hb' rfl ⟨rfl, hx w he1 (by omega)⟩
theorem madeS_calls (w : World) : Calls Tryz.prog 8 #[.agg #[.int .i64 128, .int .i64 12]] w (Ret fun v w' => ∃ db b F, v = .tuple #[.pointer (some ⟨db, 0, none⟩), .pointer (some ⟨b, 0, none⟩)] ∧ SpAt w' b db S0 F ∧ (∀ k, F k → w.heap.size ≤ k) ∧ Ext w w') := by
  apply calls8
  unfold S8
  refine new_i fun r1 w1 hb1 he1 hr1 _ => ?_
  refine boxA (ls := [.int .i64, .int .i64]) (128, 12, ()) hb1 rfl ?_
  refine callW_of (dnew_calls w1 128 12) ?_
  rintro _ w2 (⟨_, db, rfl, hd⟩ | ⟨hg, _⟩)
  · refine ⟨(some ⟨db, 0, none⟩, 0, ()), rfl, ?_⟩
    refine callW_of (at_format (hd.pre he1) (devG0 geo0) (by show ([] : List (Int × ByteArray)).length ≤ _; simp)) ?_
    rintro _ w3 (⟨hne, _⟩ | ⟨_, b, rfl, F, h1, h2, h3⟩)
    · exact absurd (great_format (devG0 geo0) chk0).1 hne
    · exact ⟨(some ⟨b, 0, none⟩, 0, ()), rfl, splitW_f (by rfl) ⟨db, b, F, rfl, h1, h2, h3⟩⟩
  · rw [geo0] at hg; cases hg
/-! ### SamePages -/
theorem same32_calls {w : World} {A A2 : Option Addr} {n c n2 c2 : Nat} {xs ys : List Nat} (h : Sli (numE .u32) w A n xs) (h2 : Sli (numE .u32) w A2 n2 ys) :
    Calls Tryz.prog 77 #[.slice A n c, .slice A2 n2 c2] w (Ret fun v w' => v = .bool (decide (xs = ys)) ∧ Ext w w') := by
  apply calls77
  unfold S77
  have l1 := h.len
  have l2 := h2.len
  have hle := h.le
  refine splitW_i (fun hq => ?_) (fun hq => ?_)
  · have hq := bne_iff_ne.1 hq
    refine ⟨?_, Ext.refl w⟩
    rw [decide_eq_false]
    rintro rfl
    omega
  have hq := bne_eq_false_iff_eq.1 hq
  refine loopW_i (fun y w' => ∃ i : Nat, i ≤ n ∧ y = ((i : Int), ()) ∧ Ext w w' ∧ ∀ j, j < i → xs.getD j 0 = ys.getD j 0) (fun y => (n - y.1).toNat) ⟨0, by omega, rfl, Ext.refl w, fun j hj => by omega⟩ ?_
  rintro _ w1 ⟨i, hi, rfl, he1, hall⟩
  dsimp only
  by_cases hlt : i < n
  · refine splitW_t (decide_eq_true (by omega)) ?_
    refine draw_i fun w2 he2 _ _ => ?_
    have he := he1.trans he2
    refine idx_num (h.ext he) (by omega) (by omega) ?_
    refine idx_num (h2.ext he) (by omega) (by omega) ?_
    rw [Int.toNat_natCast]
    refine splitW_i (fun hne => ?_) (fun hee => ?_)
    · have hne := bne_iff_ne.1 hne
      refine ⟨?_, he⟩
      rw [decide_eq_false]
      rintro rfl
      exact hne rfl
    · have hee := bne_eq_false_iff_eq.1 hee
      refine ⟨⟨i + 1, by omega, by rw [wrap_i64 (by omega) (by omega)]; rfl, he, fun j hj => ?_⟩, by rw [wrap_i64 (by omega) (by omega)]; omega⟩
      by_cases e : j = i
      · subst e; omega
      · exact hall j (by omega)
  · refine splitW_f (decide_eq_false (by omega)) ⟨?_, he1⟩
    rw [decide_eq_true]
    exact list_ext_getD (by omega) (fun k => by
      by_cases hk : k < i
      · exact hall k hk
      · rw [List.getD_eq_getElem?_getD, List.getD_eq_getElem?_getD, List.getElem?_eq_none (by omega), List.getElem?_eq_none (by omega)])
def pgEq (p q : Page) : Bool := decide (p.1 = q.1) && (decide (B p.2.2 = B q.2.2) && decide (p.2.1 = q.2.1))
theorem pgEq_self (p : Page) : pgEq p p = true := by simp [pgEq]
theorem samepages_calls {w : World} {p q : Page} {x y : SLC} (h : Sli (numE .u32) w x.1 x.2.1 p.2.1) (h2 : Sli (numE .u32) w y.1 y.2.1 q.2.1) :
    Calls Tryz.prog 36 #[.agg (pgV p x).toArray, .agg (pgV q y).toArray] w (Ret fun v w' => v = .bool (pgEq p q) ∧ Ext w w') := by
  apply calls36
  unfold S36 pgEq
  refine new_i fun r1 w1 hb1 he1 hr1 _ => ?_
  refine new_i fun r2 w2 hb2 he2 hr2 _ => ?_
  have hb1 := hb1.ext he2
  have he := he1.trans he2
  refine box0 (l := .int .u8) (p.1.toNat : Int) hb1 (by rfl) ?_
  refine box0 (l := .int .u8) (q.1.toNat : Int) hb2 (by rfl) ?_
  refine splitW_i (fun hq => ?_) (fun hq => ?_)
  rotate_left
  · have hq := beq_eq_false_iff_ne.1 hq
    refine ⟨?_, he⟩
    rw [decide_eq_false (fun e => hq (by rw [e])), Bool.false_and]
  have hq : p.1 = q.1 := UInt8.toNat_inj.1 (by have := beq_iff_eq.1 hq; omega)
  rw [decide_eq_true hq, Bool.true_and]
  refine boxF (l := .str) 2 p.2.2 hb1 (by rfl) ?_
  refine boxF (l := .str) 2 q.2.2 hb2 (by rfl) ?_
  rw [str_beq]
  refine splitW_i (fun hs => ?_) (fun hs => ?_)
  rotate_left
  · rw [hs, Bool.false_and]
    exact ⟨rfl, he⟩
  rw [hs, Bool.true_and]
  refine boxF (l := .slc) 1 x hb1 (by rfl) ?_
  refine boxF (l := .slc) 1 y hb2 (by rfl) ?_
  refine callW_of (same32_calls (h.ext he) (h2.ext he)) ?_
  rintro _ w3 ⟨rfl, he3⟩
  exact ⟨_, rfl, rfl, he.trans he3⟩
theorem gen_at {w : World} {b db : Nat} {S : Spa} {F : Nat → Prop} (h : SpAt w b db S F) : Calls Tryz.prog 27 #[.pointer (some ⟨b, 0, none⟩)] w (Ret fun v w' => v = .int .u64 (S.sup.gen : Int) ∧ w' = w) := by
  obtain ⟨Fd, x, hb, hr, nb, nr, m, h⟩ := h
  exact gen_calls h
theorem PutR.ok {S S' : Spa} {p : Page} {R H : List Nat} {M : Option (List Nat)} {n : Nat} {e : Int} (h : PutR S S' p R H M n e) (hd : (p.2.2.size : Int) ≤ S.room p.2.1.length) (hf : S.sup.pages.length < S.freeN) : e = 0 ∧ PutOk S S' p n ∧ Great S' (n :: R) H M ∧ ∀ q ∈ S'.dev.pen, q ∈ S.dev.pen ∨ q.1 = (n : Int) := by
  rcases h with ⟨_, _, _, h⟩ | ⟨_, _, _, h⟩ | h
  · omega
  · omega
  · exact ⟨h.1, h.2.1, h.2.2.1, h.2.2.2.1⟩
theorem lives_calls (w : World) : Calls Tryz.prog 7 #[] w (Ret fun v w' => v = .bool true ∧ Ext w w') := by
  apply calls7
  unfold S7
  obtain ⟨g0, pen0⟩ := s0_great
  have fr0 : S0.freeN = 9 := by unfold Spa.freeN; rw [s0_freeL]; rfl
  have pg0 : S0.sup.pages.length = 1 := by rw [s0_pages]; rfl
  refine callW_of (small_calls w) ?_
  rintro _ w1 ⟨rfl, he1⟩
  refine ⟨(128, 12, ()), rfl, ?_⟩
  refine callW_of (madeS_calls w1) ?_
  rintro _ w2 ⟨db, b, F0, rfl, h2, hF2, he2⟩
  refine ⟨(some ⟨db, 0, none⟩, some ⟨b, 0, none⟩, ()), rfl, splitW_f (by rfl) (splitW_f (by rfl) ?_)⟩
  dsimp only
  have he02 := he1.trans he2
  have hF0 : ∀ k, F0 k → w.heap.size ≤ k := fun k hk => Nat.le_trans he1.size (hF2 k hk)
  refine callW_of (sp_free h2) ?_
  rintro _ w3 ⟨rfl, he3⟩
  refine ⟨_, rfl, ?_⟩
  rw [fr0]
  have h3 := h2.ext he3
  -- a
  show callW _ _ [_, .agg (pgV ((4 : UInt8), [], ByteArray.mk #[120]) (none, 0, 0)).toArray] _ _ w3
  refine callW_of (sp_put (R := []) (p := ((4 : UInt8), [], ByteArray.mk #[120])) h3 g0 (by rw [pen0]; simp) (Sli.nil w3 none) (fun a ha => by cases ha) (by decide) (by rw [s0_room]; decide) (by decide)) ?_
  rintro _ w4 ⟨Sa, a, e, rfl, hp, F4, h4, hF4, hO4⟩
  obtain ⟨rfl, pa, ga, _⟩ := hp.ok (by rw [s0_room]; decide) (by omega)
  refine ⟨((a : Int), 0, ()), rfl, ?_⟩
  have hx4 : Ext w w4 := Only.ext (he02.trans he3) hO4 hF0
  have hF04 : ∀ k, F4 k → w.heap.size ≤ k := fun k hk => by
    rcases hF4 k hk with e | e
    · exact hF0 k e
    · exact Nat.le_trans (he02.trans he3).size e
  have ra : ∀ k, Sa.room k = S0.room k := fun k => by unfold Spa.room; rw [pa.sup]
  have fra : Sa.freeN = 8 := by have := congrArg List.length pa.freeL; unfold Spa.freeN at fr0 ⊢; rw [List.length_cons] at this; omega
  have pga : Sa.sup.pages.length = 1 := by rw [pa.sup, pg0]
  -- b
  refine new_i fun r5 w5 hb5 he5 hr5 hz5 => ?_
  have h5 := h4.ext he5
  show callW _ _ [_, .agg (pgV ((3 : UInt8), [a], ByteArray.empty) (some ⟨r5, 0, none⟩, 1, 1)).toArray] _ _ w5
  refine callW_of (sp_put (R := []) (p := ((3 : UInt8), [a], ByteArray.empty)) h5 ga (by have := pa.pen; rw [pen0] at this; simp at this; omega) (Sli.of_blk (E := numE .u32) (xs := [a]) (by exact hb5) rfl (by omega)) (fun q hq hf => ?_) (show 3 ≤ (3 : UInt8).toNat by decide) (by rw [ra, s0_room]; show ((1 : Nat) : Int) ≤ _; decide) (show ByteArray.empty.size ≤ 1000000000 by decide)) ?_
  · cases hq
    have := h4.lt _ hf
    dsimp only at this
    omega
  rintro _ w6 ⟨Sb, n, e, rfl, hp, F6, h6, hF6, hO6⟩
  obtain ⟨rfl, pb, gb, _⟩ := hp.ok (by rw [ra, s0_room]; show ((ByteArray.empty.size : Nat) : Int) ≤ (if ((1 : Nat) : Int) < 0 ∨ ((1 : Nat) : Int) > 27 then 0 else 110 - 4 * ((1 : Nat) : Int)); decide) (by omega)
  refine ⟨((n : Int), 0, ()), rfl, ?_⟩
  have hx5 := hx4.trans he5
  have hx6 : Ext w w6 := Only.ext hx5 hO6 hF04
  have hF06 : ∀ k, F6 k → w.heap.size ≤ k := fun k hk => by
    rcases hF6 k hk with e | e
    · exact hF04 k e
    · exact Nat.le_trans hx5.size e
  have frb : Sb.freeN = 7 := by have := congrArg List.length pb.freeL; unfold Spa.freeN at fra ⊢; rw [List.length_cons] at this; omega
  have hub : usedC Sb.sup.pages Sb.now n = true := gb.good.well.root n List.mem_cons_self
  have hgb : Sb.sup.gen = 1 := by rw [pb.sup, pa.sup]; rfl
  have hpenb : Sb.dev.pen.length = 2 := by rw [pb.pen, pa.pen, pen0]; rfl
  refine callW_of (sp_commit h6 gb (root := n) (.inr hub) (by omega) (by omega)) ?_
  rintro _ w7 ⟨rfl, hC, F7, h7, hF7, hO7⟩
  refine ⟨_, rfl, ?_⟩
  have hx7 : Ext w w7 := Only.ext hx6 hO7 hF06
  have hF07 : ∀ k, F7 k → w.heap.size ≤ k := fun k hk => by
    rcases hF7 k hk with e | e
    · exact hF06 k e
    · exact Nat.le_trans hx6.size e
  refine callW_of (sp_open h7 hC.great) ?_
  rintro _ w8 ⟨b8, F8, rfl, h8, he8, hb8, hF8⟩
  refine ⟨(some ⟨b8, 0, none⟩, 0, ()), rfl, ?_⟩
  have hx8 := hx7.trans he8
  have hF08 : ∀ k, F8 k → w.heap.size ≤ k := fun k hk => by
    rcases hF8 k hk with e | e
    · exact hF07 k e
    · exact Nat.le_trans hx7.size e
  refine splitW_f (by rfl) (splitW_f (by rfl) (splitW_f (by rfl) (splitW_f (by rfl) (splitW_f (by rfl) ?_))))
  dsimp only
  have eS : ({ (Sb.commit n).1 with now := (Sb.commit n).1.held, mark := none } : Spa) = (Sb.commit n).1 := by
    have e1 := hC.now
    have e2 := hC.held
    have e3 := hC.mark
    generalize (Sb.commit n).1 = X at *
    cases X
    simp only at e1 e2 e3
    subst e1 e3
    rw [e2]
  rw [eS] at h8
  have gC := hC.great
  have supC := hC.sup
  have hpC : (Sb.commit n).1.page n = (((3 : UInt8), [a], ByteArray.empty), 0) := (hC.page n hub).trans pb.page
  have penC := hC.pen
  generalize (Sb.commit n).1 = X at *
  have hrt : X.sup.root = n := by rw [supC]; rfl
  have hn32 : n < 4294967296 := by have := gb.good.dims.n; have := gb.good.well.lt hub; omega
  refine callW_of (sp_root h8) ?_
  rintro _ w9 ⟨rfl, hw9⟩
  refine ⟨_, rfl, ?_⟩
  rw [hw9, hrt]
  have hux : usedC X.sup.pages X.now n = true := gC.good.well.root n List.mem_cons_self
  have hgx : X.get n = (((3 : UInt8), [a], ByteArray.empty), 0) := by rw [(gC.good.get hux).1, hpC]
  refine callW_of (sp_get h8 hn32) ?_
  rintro _ w10 ⟨y, rfl, hoy, he10⟩
  rw [hgx] at hoy ⊢
  refine ⟨(pgT ((3 : UInt8), [a], ByteArray.empty) y, 0, ()), rfl, ?_⟩
  refine new_i fun r11 w11 hb11 he11 hr11 hz11 => ?_
  refine refill (vs := pgV ((3 : UInt8), [a], ByteArray.empty) y) hb11 (by rfl) (pgV_one _ y) (by rfl) fun w12 hb12 hx12 hk12 hz12 => ?_
  have he12 : Ext w10 w12 := hx12 w10 he11 (by omega)
  have hoy12 := hoy.ext he12
  have h12 := h8.ext (he10.trans he12)
  have hx12' := (hx8.trans he10).trans he12
  -- c
  have rX : ∀ k, X.room k = S0.room k := fun k => by unfold Spa.room; rw [supC]; show (if k < 0 ∨ k > (roomOf Sb.sup.size - 2) / 4 then 0 else roomOf Sb.sup.size - 2 - 4 * k) = _; rw [pb.sup, pa.sup]
  have hN12 : Sb.N = 12 := by unfold Spa.N; rw [pb.sup, pa.sup]; rfl
  have frX : X.sup.pages.length < X.freeN := by
    have h1 : X.sup.pages.length = 1 := by
      rw [supC]
      show Sb.ns.length = 1
      unfold Spa.ns
      rw [List.length_take]
      have : Sb.sup.pages.length = 1 := by rw [pb.sup, pga]
      unfold Spa.freeN at frb
      omega
    have h2 := nodup_sub (a := Sb.freeL.drop 1) (b := X.freeL) ((freeL_nd Sb).sublist (List.drop_sublist _ _)) (fun k hk => by
      have hkf := List.mem_of_mem_drop hk
      obtain ⟨a1, a2, a3⟩ := freeL_mem.1 hkf
      have hnow := hC.now
      have hheld := hC.held
      have hP := gb.heldOK.pgsOk gb.good
      have hg := comC_get gb.good.ok.now hP k
      have hmk := hC.mark
      obtain ⟨b1, b2, b3⟩ := isFree_iff.1 a3
      have hkp : k ∉ Sb.sup.pages := fun e => by have := (hP.at_ k e).2.2; omega
      have hkn : k ∉ Sb.ns := fun e => by
        have hns : Sb.ns = Sb.freeL.take 1 := by unfold Spa.ns; rw [show Sb.sup.pages.length = 1 by rw [pb.sup, pga]]
        rw [hns] at e
        have hnd := freeL_nd Sb
        rw [← List.take_append_drop 1 Sb.freeL, List.nodup_append] at hnd
        exact hnd.2.2 k e k hk rfl
      rw [if_neg hkp, if_neg hkn] at hg
      refine freeL_mem.2 ⟨?_, a2, isFree_iff.2 ⟨?_, ?_, ?_⟩⟩
      · unfold Spa.N; rw [supC]; exact a1
      · rw [hnow, hg]; exact b1
      · rw [hheld, hg]; exact b1
      · rw [hmk]; rfl)
    rw [List.length_drop] at h2
    unfold Spa.freeN at frb ⊢
    omega
  show callW _ _ [_, .agg (pgV ((4 : UInt8), [], ByteArray.empty) (none, 0, 0)).toArray] _ _ w12
  refine callW_of (sp_put (R := [n]) (p := ((4 : UInt8), [], ByteArray.empty)) h12 gC (by rw [penC]; simp) (Sli.nil w12 none) (fun a ha => by cases ha) (by decide) (by rw [rX, s0_room]; decide) (by decide)) ?_
  rintro _ w13 ⟨Sc, c, e, rfl, hp, F13, h13, hF13, hO13⟩
  obtain ⟨rfl, pc, gc, _⟩ := hp.ok (by rw [rX, s0_room]; decide) frX
  refine ⟨((c : Int), 0, ()), rfl, ?_⟩
  have hb8' : Blk w13 r11 (pgV ((3 : UInt8), [a], ByteArray.empty) y) _ := hb12.only hO13 (fun hf => by have := h8.lt _ hf; have := he10.size; omega)
  have hoy13 := hoy12.only hO13 (fun j hj hf => by have := h8.lt _ hf; have := hoy.row j hj; omega)
  have hx13 : Ext w w13 := Only.ext hx12' hO13 hF08
  have hF013 : ∀ k, F13 k → w.heap.size ≤ k := fun k hk => by
    rcases hF13 k hk with e | e
    · exact hF08 k e
    · exact Nat.le_trans hx12'.size e
  have hFlt13 : ∀ k, F13 k → k < w8.heap.size ∨ w12.heap.size ≤ k := fun k hk => by
    rcases hF13 k hk with e | e
    · exact .inl (h8.lt k e)
    · exact .inr e
  refine callW_of (sp_free h13) ?_
  rintro _ w14 ⟨rfl, he14⟩
  refine ⟨_, rfl, ?_⟩
  have h14 := h13.ext he14
  refine callW_of (sp_drop h14 (R := [n]) gc) ?_
  rintro _ w15 ⟨rfl, c', gd, ⟨F15, h15, hF15, hO15⟩, hD, _⟩
  refine ⟨_, rfl, ?_⟩
  refine splitW_t (by rfl) (splitW_t (by rfl) ?_)
  have hr11 : ¬ F13 r11 := fun hf => by
    have := he10.size
    rcases hFlt13 _ hf with e | e <;> omega
  have hb15 : Blk w15 r11 (pgV ((3 : UInt8), [a], ByteArray.empty) y) _ := (hb8'.ext he14).only hO15 hr11
  have hoy15 := (hoy13.ext he14).only hO15 (fun j hj hf => by
    have := hoy12.row_lt j hj
    have := hoy.row j hj
    have := hoy.row_lt j hj
    rcases hFlt13 _ hf with e | e <;> omega)
  refine boxA (ls := pgLs) (pgT ((3 : UInt8), [a], ByteArray.empty) y) hb15 rfl ?_
  have hx15 : Ext w w15 := Only.ext (hx13.trans he14) hO15 hF013
  refine new_i fun r16 w16 hb16 he16 hr16 hz16 => ?_
  show callW _ _ [.agg (pgV ((3 : UInt8), [a], ByteArray.empty) y).toArray, .agg (pgV ((3 : UInt8), [a], ByteArray.empty) (some ⟨r16, 0, none⟩, 1, 1)).toArray] _ _ w16
  refine callW_of (samepages_calls (hoy15.ext he16).sl (Sli.of_blk (E := numE .u32) (xs := [a]) (by exact hb16) rfl (show 1 ≤ 9223372036854775807 by omega))) ?_
  rintro _ w17 ⟨rfl, he17⟩
  refine ⟨_, rfl, ?_⟩
  rw [pgEq_self]
  refine splitW_t (by rfl) ?_
  have h17 := (h15.ext he16).ext he17
  refine callW_of (gen_at h17) ?_
  rintro _ w18 ⟨rfl, hw18⟩
  have hgx2 : Sc.sup.gen = 2 := by rw [pc.sup, supC]; show Sb.sup.gen + 1 = 2; omega
  refine ⟨_, rfl, ?_⟩
  rw [hw18]
  refine splitW_t (by show ((Sc.sup.gen : Nat) : Int) == 2; rw [hgx2]; rfl) (splitW_t (by rfl) (splitW_t (by rfl) ?_))
  refine callW_of (sp_free h17) ?_
  rintro _ w19 ⟨rfl, he19⟩
  refine ⟨_, rfl, ?_, ((hx15.trans he16).trans he17).trans he19⟩
  have hone : Sc.now.getD c 0 = 1 := by
    rw [pc.now, getD_setN, if_pos ⟨rfl, by rw [gC.good.ok.now]; exact pc.lt⟩]
  have hd := put_drop pc gC.good.ok.now (drp_leaf gc.good hone (by unfold kidsP; rw [pc.page]) hD)
  have hfc : X.freeN = Sc.freeN + 1 := by unfold Spa.freeN; rw [pc.freeL, List.length_cons]
  have hle := freeN_le Sc
  have hNc := gc.good.dims.n
  rw [hd.2, wrap_i64 (by omega) (by omega), hfc]
  have : (((Sc.freeN + 1 : Nat) : Int) == (Sc.freeN : Int) + 1) = true := beq_iff_eq.2 (by omega)
  rw [this]
end Go.Proofs.YtjdmggaeagnolaaGreat.V
/- Law 13: SpaceAudit. -/
set_option linter.unusedVariables false
set_option linter.unusedSimpArgs false
namespace Go.Proofs.YtjdmggaeagnolaaGreat.V
open Go Go.Proofs Go.RowKit Crc
def actT (a : ActV) : Int × Int × Int × Int × ByteArray × Unit := (a.1, (a.2.1.toNat : Int), a.2.2.1, a.2.2.2.1, a.2.2.2.2, ())
abbrev actLs : List Lf := [.int .i64, .int .u8, .int .i64, .int .i64, .str]
theorem light_bounds {size blocks : Int} (h : lightGeo size blocks = true) (hg : geoOK size blocks = true) : size ≤ 512 ∧ blocks ≤ 40 := by
  obtain ⟨g1, g2, g3, g4, g5⟩ := geo_dims hg
  unfold lightGeo at h
  rw [if_neg (by omega)] at h
  exact of_decide_eq_true h
end Go.Proofs.YtjdmggaeagnolaaGreat.V
/- Law 13: SpaceKeeps. -/
set_option linter.unusedVariables false
set_option linter.unusedSimpArgs false
namespace Go.Proofs.YtjdmggaeagnolaaGreat.V
open Go Go.Proofs Go.RowKit Crc
/-- Acts, gone through: what all laws of the chapter begin with. -/
theorem acts_loop {w3 w5 : World} {size : Int} {N P r db n : Nat} {A : Option Addr} {acts : List ActV} {K : WP} (ha3 : Sli actE w3 A n acts) (hq : ∀ a ∈ acts, actQ a) (h600 : ∀ a ∈ acts, a.2.2.2.2.size ≤ 600) (hn : n ≤ 60) (hN : N ≤ 40)
    (h0 : DoR w3 r db size N P 0 w5) (hK : ∀ w', DoR w3 r db size N P n w' → K w') :
    loopW (Int × Unit) ((0 : Int), ()) (fun (y9 : Int × Unit) (I8 : (Int × Unit) → WP) =>
      splitW (decide (y9.1 < ((n : Nat) : Int))) (guardW (0 ≤ y9.1 ∧ y9.1 < ((n : Nat) : Int)) <|
        ptrW A fun (p10 : Addr) =>
        ldAW [(.int .i64), (.int .u8), (.int .i64), (.int .i64), .str] (p10.add (Int.toNat y9.1 * 5)) fun (u11 : Int × Int × Int × Int × ByteArray × Unit) =>
        callW Tryz.prog 31 [(.pointer (some (⟨r, 0, none⟩ : Addr))), (.agg #[(.int .i64 u11.1), (.int .u8 u11.2.1), (.int .i64 u11.2.2.1), (.int .i64 u11.2.2.2.1), (.string u11.2.2.2.2.1)])] (.many [(.one (.int .u32)), (.one (.int .i64))]) fun (u12 : Int × Int × Unit) => I8 ((IntKind.wrap .i64 (y9.1 + (1 : Int))), ())) K) w5 := by
  have hal := ha3.len
  refine loopW_i (fun y w' => ∃ i : Nat, i ≤ n ∧ y = ((i : Int), ()) ∧ DoR w3 r db size N P i w') (fun y => (n - y.1).toNat) ⟨0, by omega, rfl, h0⟩ ?_
  rintro _ w7 ⟨i, hi, rfl, hd⟩
  dsimp only
  by_cases hlt : i < n
  · refine splitW_t (decide_eq_true (by omega)) ?_
    obtain ⟨b7, S7, F7, xo, xh, xm, own, held, mark, mk, root, h7, hI⟩ := hd
    have hmem : acts.getD i act0 ∈ acts := by rw [List.getD_eq_getElem?_getD, List.getElem?_eq_getElem (by omega)]; exact List.getElem_mem _
    refine idx_A (E := actE) (ls := actLs) actT act0 (ha3.ext h7.x) (fun _ => rfl) rfl (by omega) (by omega) ?_
    rw [Int.toNat_natCast]
    refine callW_of (do_run h7 hI (by omega) (by omega) (hq _ hmem) (h600 _ hmem)) ?_
    rintro _ w8 ⟨m, e, rfl, he, hd8⟩
    refine ⟨((m : Int), e, ()), rfl, ?_⟩
    exact ⟨⟨i + 1, by omega, by rw [wrap_i64 (by omega) (by omega)]; rfl, hd8⟩, by rw [wrap_i64 (by omega) (by omega)]; omega⟩
  · obtain rfl : i = n := by omega
    exact splitW_f (decide_eq_false (by omega)) (hK _ hd)
theorem RowN.apart' {w w' : World} {F G : Nat → Prop} {r : Nat} {x : SLC} {l : List Nat} (h : RowN w F r x l) (o : Only G w w') (hG : ∀ a, x.1 = some a → ¬ G a.block) : RowN w' F r x l :=
  ⟨h.sl.only o hG, h.cap, fun a ha => ⟨Nat.lt_of_lt_of_le (h.apart a ha).1 o.2.2.2.1, (h.apart a ha).2⟩⟩
/-- Blocks that are not the run's have changed. -/
theorem RunX.side {w0 w w' : World} {r db b : Nat} {S : Spa} {F G : Nat → Prop} {xo xh xm : SLC} {own held mark : List Nat} {mk : Bool} {root : Nat} (h : RunX w0 w r db b S F xo xh xm own held mark mk root) (o : Only G w w') (hF : ∀ j, F j → ¬ G j) (hr : ¬ G r)
    (hrow : ∀ a, (xo.1 = some a ∨ xh.1 = some a ∨ xm.1 = some a) → ¬ G a.block) (hG : ∀ k, G k → w0.heap.size ≤ k) : RunX w0 w' r db b S F xo xh xm own held mark mk root :=
  ⟨h.box.only o hr, h.sp.only o hF, h.base, h.rr, h.ro.apart' o (fun a ha => hrow a (.inl ha)), h.rh.apart' o (fun a ha => hrow a (.inr (.inl ha))), h.rm.apart' o (fun a ha => hrow a (.inr (.inr ha))), Only.ext h.x o hG⟩
def keepP (u : UInt8) : Page := (tagP u, [], mkB [u])
/-- What is kept of the pages that were put. -/
structure Kp (S : Spa) (u : UInt8) (l : List Nat) : Prop where
  nd : l.Nodup
  page : ∀ n ∈ l, S.page n = (keepP u, 0) ∧ S.now.getD n 0 = 1
theorem Kp.put {S S' : Spa} {u : UInt8} {l R : List Nat} {n : Nat} (h : Kp S u l) (hg : Good S (l ++ R)) (hP : PutOk S S' (keepP u) n) : Kp S' u (l ++ [n]) := by
  have h0 := (isFree_iff.1 hP.free).1
  have hno : n ∉ l := fun e => by have := (h.page n e).2; omega
  refine ⟨?_, fun k hk => ?_⟩
  · rw [List.nodup_append]
    exact ⟨h.nd, by simp, fun a ha b hb e => hno (by rw [List.mem_singleton.1 hb] at e; rw [← e]; exact ha)⟩
  · rcases List.mem_append.1 hk with hk | hk
    · have hne : k ≠ n := fun e => hno (e ▸ hk)
      have hu := hg.well.lt (hg.well.root k (List.mem_append_left _ hk))
      rw [hP.other k hne hu, hP.now, getD_setN, if_neg (fun e => hne e.1.symm)]
      exact h.page k hk
    · rw [List.mem_singleton.1 hk]
      exact ⟨hP.page, by rw [hP.now, getD_setN, if_pos ⟨rfl, by rw [hg.ok.now]; exact hP.lt⟩]⟩
theorem blk_byte {w : World} {r : Nat} {u : UInt8} (h : Blk w r [.int .u8 (u.toNat : Int)] 5) {K : ByteArray → WP} (hK : K (mkB [u]) w) : runW Tryz.prog (Go.convert 62 9 (.slice (some (⟨r, 0, none⟩ : Addr)) 1 1)) .str K w := by
  have hs : Sl w (some ⟨r, 0, none⟩) 1 (bV [u]) := Sl.of_blk (by exact h) rfl (by omega)
  exact conv_str (e := 5) (by kernel_rfl) (by kernel_rfl) (by kernel_rfl) hs hK
structure Kst (w3 w : World) (r db b : Nat) (u : UInt8) (S7 S : Spa) (F : Nat → Prop) (xo xh xm : SLC) (own held mark : List Nat) (mk : Bool) (root : Nat) (l : List Nat) : Prop where
  run : RunX w3 w r db b S F xo xh xm own held mark mk root
  great : Great S (l ++ own) held (if mk then some mark else none)
  kp : Kp S u l
  sup : S.sup = S7.sup
  pen : S.dev.pen.length ≤ 200
theorem keeps_law {w : World} {size blocks : Int} {A : Option Addr} {n c : Nat} {acts : List ActV} (ha : Sli actE w A n acts) (hq : ∀ a ∈ acts, actQ a) (u : UInt8) :
    Calls Tryz.prog 4 #[.agg #[.int .i64 size, .int .i64 blocks], .slice A n c, .int .u8 (u.toNat : Int)] w (Ret fun v w' => v = .bool true ∧ Ext w w') := by
  apply calls4
  unfold S4
  have hal := ha.len
  refine new_i fun r1 w1 hb1 he1 hr1 hz1 => ?_
  refine callW_of (lives_calls w1) ?_
  rintro _ w2 ⟨rfl, he2⟩
  refine ⟨_, rfl, splitW_f (by rfl) ?_⟩
  have hb2 := hb1.ext he2
  have he02 := he1.trans he2
  refine boxA (ls := [.int .i64, .int .i64]) (size, blocks, ()) hb2 rfl ?_
  refine callW_of (lightgeo_calls w2 size blocks) ?_
  rintro _ w3 ⟨rfl, he3⟩
  refine ⟨_, rfl, ?_⟩
  have he03 := he02.trans he3
  refine splitW_i (fun _ => ⟨rfl, he03⟩) (fun hlg => ?_)
  refine callW_of (light_calls (ha.ext he03)) ?_
  rintro v w4 ⟨hv, hw4⟩
  obtain ⟨q, rfl, hql⟩ : ∃ q : Bool, v = .bool q ∧ (q = true → n ≤ 60 ∧ ∀ a ∈ acts, a.2.2.2.2.size ≤ 600) := by
    rcases hv with ⟨e, h1, h2⟩ | e
    · exact ⟨true, e, fun _ => ⟨h1, h2⟩⟩
    · exact ⟨false, e, fun h => by cases h⟩
  refine ⟨q, rfl, ?_⟩
  rw [hw4]
  refine splitW_i (fun _ => ⟨rfl, he03⟩) (fun hqt => ?_)
  have hqt : q = true := by cases q <;> simp_all
  obtain ⟨hn60, h600⟩ := hql hqt
  have hb3 := hb2.ext he3
  refine boxA (ls := [.int .i64, .int .i64]) (size, blocks, ()) hb3 rfl ?_
  refine callW_of (begin_calls w3 size blocks) ?_
  rintro v w5 hv
  obtain ⟨p, rfl, he5, hp⟩ : ∃ p : Option Addr, v = .pointer p ∧ Ext w3 w5 ∧ (p = none ∨ (geoOK size blocks = true ∧ chk (fmtS size blocks.toNat) = 0 ∧ ∃ r db b F, p = some ⟨r, 0, none⟩ ∧ RunX w3 w5 r db b (formatS (dev0 size blocks)) F (none, 0, 0) (none, 0, 0) (none, 0, 0) [] [] [] false 0)) := by
    rcases hv with ⟨e, he⟩ | ⟨h1, h2, r, db, b, F, e, hR⟩
    · exact ⟨none, e, he, .inl rfl⟩
    · exact ⟨_, e, hR.x, .inr ⟨h1, h2, r, db, b, F, rfl, hR⟩⟩
  refine ⟨p, rfl, ?_⟩
  rcases hp with rfl | ⟨hgeo, hchk, r, db, b, F, rfl, hR⟩
  · exact splitW_t (by rfl) ⟨rfl, he03.trans he5⟩
  refine splitW_f (by rfl) ?_
  obtain ⟨N, rfl⟩ := nat_of_geo hgeo
  rw [Int.toNat_natCast] at hchk
  have hlb := light_bounds (by simpa using hlg) hgeo
  have hI0 := Inv.format hgeo hchk
  have ha3 := ha.ext he03
  refine acts_loop ha3 hq h600 hn60 (by omega) ⟨b, _, F, _, _, _, [], [], [], false, 0, hR, hI0⟩ ?_
  rintro w7 ⟨b7, S7, F7, xo, xh, xm, own, held, mark, mk, root, h7, hI⟩
  have hNN := hI.n
  have hdim := hI.gr.good.dims
  have hgen := hI.gen
  have hpl := hI.pl
  have hend : ∀ {w' : World}, Ext w3 w' → Ext w w' := fun h => he03.trans h
  have hroom : ∀ {S : Spa}, S.sup = S7.sup → ∀ k : Int, 0 ≤ k → k ≤ 20 → 6 ≤ S.room k := by
    intro S hs k hk hk2
    unfold Spa.room
    rw [hs, hdim.room, if_neg (by have := hdim.size; omega)]
    have := hdim.size
    omega
  refine joinW_s (fun y w' => ∃ (S : Spa) (F : Nat → Prop) (l : List Nat), l.length ≤ 50 ∧ Kst w3 w' r db b7 u S7 S F xo xh xm own held mark mk root l ∧ RowN w' F r y.1 l) ?_ (fun J13 hJ13 => ?_)
  rotate_left
  · -- pages are put
    refine loopW_i (fun y w' => ∃ (k : Nat) (S : Spa) (F : Nat → Prop) (l : List Nat), k ≤ 50 ∧ y.2 = ((k : Int), ()) ∧ l.length = k ∧ S.dev.pen.length ≤ 60 + k ∧ Kst w3 w' r db b7 u S7 S F xo xh xm own held mark mk root l ∧ Owni (numE .u32) 35 w' w7.heap.size y.1.1 y.1.2.1 y.1.2.2 l ∧ (∀ j, orow y.1.1 = some j → ¬ F j) ∧ w7.heap.size ≤ w'.heap.size) (fun y => (50 - y.2.1).toNat)
      ⟨0, S7, F7, [], by omega, rfl, rfl, by omega, ⟨h7, hI.gr, ⟨List.nodup_nil, fun n hn => by cases hn⟩, rfl, by omega⟩, Owni.nil _ _ _, (fun j hj => by cases hj), Nat.le_refl _⟩ ?_
    rintro ⟨x, yk⟩ w8 ⟨k, S, F, l, hk, rfl, hlk, hpen, hst, ho, hoF, hsz⟩
    dsimp only at ho hoF ⊢
    have hrow : ∀ j, orow x.1 = some j → w7.heap.size ≤ j := fun j hj => ho.row j hj
    have hxl := ho.len
    have toN : RowN w8 F r x l := ⟨ho.sl, ho.le.1, fun a ha => by
      have hj : orow x.1 = some a.block := by rw [ha]; rfl
      exact ⟨ho.row_lt _ hj, hoF _ hj, fun e => by have := hrow _ hj; have := h7.box.lt; omega⟩⟩
    by_cases hlt : k < 50
    · refine splitW_t (decide_eq_true (by omega)) ?_
      refine draw_i fun w9 he9 _ _ => ?_
      have h9 := hst.run.ext he9
      refine ptr_i (boxE (l := .ptr) 1 (some ⟨b7, 0, none⟩) h9.box (by rfl) (by rfl) ?_)
      refine new_i fun r19 w10 hb10 he10 hr10 hz10 => ?_
      have h10 := h9.ext he10
      refine h1_i (held1F h10.box (by rfl)) (blk_byte (by exact hb10) ?_)
      refine h1_i (held1F h10.box (by rfl)) ?_
      rw [tag_wrap]
      show callW _ _ [_, .agg (pgV (keepP u) (none, 0, 0)).toArray] _ _ w10
      refine callW_of (sp_put (R := l ++ own) (p := keepP u) h10.sp hst.great (by omega) (Sli.nil w10 none) (fun a ha => by cases ha) (by show 3 ≤ (tagP u).toNat; rw [tagP_nat]; omega) (by have := hroom hst.sup 0 (by omega) (by omega); show ((0 : Nat) : Int) ≤ _; omega) (by show (mkB [u]).size ≤ _; rw [mkB_size]; simp)) ?_
      rintro _ w11 ⟨S', m, e, rfl, hput, hstp⟩
      refine ⟨((m : Int), e, ()), rfl, ?_⟩
      dsimp only
      have hx11 := hstp
      obtain ⟨F2, g1, g2, g3⟩ := hstp
      have he810 := he9.trans he10
      have h11 : RunX w3 w11 r db b7 S' F2 xo xh xm own held mark mk root := by
        have hrl := h10.box.lt
        have hG : ∀ k, F k → F k ∨ k = r ∨ w10.heap.size ≤ k := fun k hk => .inl hk
        refine ⟨h10.box.only g3 h10.rr.2, g1, fun k hk => ?_, ⟨h10.rr.1, fun hf => ?_⟩, h10.ro.step g3 hG g2, h10.rh.step g3 hG g2, h10.rm.step g3 hG g2, Only.ext h10.x g3 h10.base⟩
        · rcases g2 k hk with e | e
          · exact h10.base k e
          · exact Nat.le_trans h10.x.size e
        · rcases g2 r hf with e | e
          · exact h10.rr.2 e
          · omega
      have ho11 := (ho.ext he810).only g3 (fun j hj hf => hoF j hj hf)
      have hoF11 : ∀ j, orow x.1 = some j → ¬ F2 j := fun j hj hf => by
        rcases g2 j hf with e | e
        · exact hoF j hj e
        · have := (ho.ext he810).row_lt j hj; omega
      have s810 := he810.size
      have s11 := g3.2.2.2.1
      have hrowN : RowN w11 F2 r x l := (toN.ext he810).step g3 (fun k hk => .inl hk) g2
      rcases hput with ⟨rfl, rfl, rfl, hlong⟩ | ⟨rfl, rfl, rfl, _⟩ | ⟨he, hP, hG', hpen'⟩
      · exfalso
        have := hroom hst.sup 0 (by omega) (by omega)
        have hlong : _ < (((mkB [u]).size : Nat) : Int) := hlong
        rw [mkB_size] at hlong
        have hl0 : S'.room ((keepP u).2.1.length : Int) = S'.room 0 := rfl
        rw [hl0] at hlong
        simp at hlong
        omega
      · refine splitW_t (by rfl) (splitW_f (by rfl) (hJ13 _ _ ⟨S', F2, l, by omega, ⟨h11, hst.great, hst.kp, hst.sup, by omega⟩, hrowN⟩))
      · rw [he]
        refine splitW_f (by rfl) ?_
        refine new_i fun r22 w12 hb12 he12 hr12 hz12 => ?_
        have hkp := hst.kp.put hst.great.good hP
        have hgr : Great S' ((l ++ [m]) ++ own) held (if mk then some mark else none) := hG'.perm (by
          rw [List.append_assoc]
          exact (List.perm_middle).symm)
        have hsl : Sli (numE .u32) w12 (some ⟨r22, 0, none⟩) 1 [m] := Sli.of_blk (by exact hb12) rfl (by omega)
        refine append_sli elem_u32 (ho11.ext he12) (by have := he12.size; omega) hsl (by omega) (by omega) ?_
        intro A' c' w13 ho13 hg13 hre
        have o13 : Only (fun j => orow x.1 = some j) w12 w13 := Only.of_grown hg13.grown (fun j hj => .inl hj)
        have h12 := h11.ext he12
        have h13 := h12.side o13 (fun j hj e => hoF11 j e hj) (fun e => by have := hrow _ e; have := h7.box.lt; omega) (fun a ha e => by
          have h1 := hrow _ e
          rcases ha with ha | ha | ha
          · have := (h7.ro.apart a ha).1; omega
          · have := (h7.rh.apart a ha).1; omega
          · have := (h7.rm.apart a ha).1; omega) (fun k hk => by have := hrow _ hk; have := h7.x.size; omega)
        have s12 := he12.size
        have s13 := o13.2.2.2.1
        refine ⟨⟨k + 1, S', F2, l ++ [m], by omega, ?_, by rw [List.length_append, List.length_singleton]; omega, by have := hP.pen; omega, ⟨h13, hgr, hkp, hP.sup.trans hst.sup, by have := hP.pen; omega⟩, ?_, ?_, by omega⟩, ?_⟩
        · show (IntKind.wrap .i64 ((k : Int) + 1), ()) = _
          rw [wrap_i64 (by omega) (by omega)]; rfl
        · exact ho13
        · intro j hj hf
          have hj : orow A' = some j := hj
          rcases hg13.next j hj with e | e
          · exact hoF11 j e hf
          · have := h11.sp.lt _ hf; omega
        · show (50 - IntKind.wrap .i64 ((k : Int) + 1)).toNat < _
          rw [wrap_i64 (by omega) (by omega)]
          show (50 - ((k : Int) + 1)).toNat < (50 - (k : Int)).toNat
          omega
    · refine splitW_f (decide_eq_false (by omega)) (hJ13 _ _ ⟨S, F, l, by omega, ⟨hst.run, hst.great, hst.kp, hst.sup, by omega⟩, toN⟩)
  rintro ⟨x, _⟩ w8 ⟨S, F, l, hl50, hst, hrx⟩
  dsimp only at hrx ⊢
  have h8 := hst.run
  have hSN : S.N = N := by unfold Spa.N; rw [hst.sup]; exact hNN
  have hl40 : l.length ≤ 40 := by
    have := nodup_len hst.kp.nd (N := S.N) (fun n hn => hst.great.good.well.lt (hst.great.good.well.root n (List.mem_append_left _ hn)))
    omega
  refine ptr_i (boxE (l := .ptr) 1 (some ⟨b7, 0, none⟩) h8.box (by rfl) (by rfl) ?_)
  have hpen8 := hst.pen
  refine callW_of (sp_commit h8.sp hst.great (root := 0) (.inl rfl) (by rw [hst.sup]; omega) (by omega)) ?_
  rintro _ w9 ⟨rfl, hC, hstc⟩
  refine ⟨_, rfl, splitW_f (by rfl) ?_⟩
  have hxl := hrx.sl.len
  refine splitW_f (decide_eq_false (by show ¬ ((x.2.1 : Nat) : Int) > 45; omega)) ?_
  -- what was committed
  have hP := hst.great.heldOK.pgsOk hst.great.good
  have hcg := comC_get hst.great.good.ok.now hP
  have hfree : ∀ k ∈ l, (S.commit 0).1.held.getD k 0 = 1 ∧ (S.commit 0).1.page k = (keepP u, 0) := fun k hk => by
    have hu := hst.great.good.well.root k (List.mem_append_left own hk)
    obtain ⟨a1, a2, a3⟩ := usedC_iff.1 hu
    have h1 := hst.kp.page k hk
    refine ⟨?_, (hC.page k hu).trans h1.1⟩
    rw [hC.held, hcg, if_neg a2, if_neg (fun e => by have := (isFree_iff.1 (ns_free e).2.2).1; omega)]
    exact h1.2
  have hgC := hC.great
  have hsupC : (S.commit 0).1.sup = S.next 0 := hC.sup
  have hpenC := hC.pen
  generalize (S.commit 0).1 = X at *
  have hXN : X.N = N := by unfold Spa.N; rw [hsupC]; exact hSN
  have stepN : ∀ {wa wb : World} {Sa Sb : Spa} {Fa : Nat → Prop}, RunX w3 wa r db b7 Sa Fa xo xh xm own held mark mk root → RowN wa Fa r x l → StepS wa b7 db Fa Sb wb → ∃ Fb, RunX w3 wb r db b7 Sb Fb xo xh xm own held mark mk root ∧ RowN wb Fb r x l := by
    intro wa wb Sa Sb Fa hr hn hs
    obtain ⟨F2, g1, g2, g3⟩ := hs
    have hrl := hr.box.lt
    have hG : ∀ k, Fa k → Fa k ∨ k = r ∨ wa.heap.size ≤ k := fun k hk => .inl hk
    refine ⟨F2, ⟨hr.box.only g3 hr.rr.2, g1, fun k hk => ?_, ⟨hr.rr.1, fun hf => ?_⟩, hr.ro.step g3 hG g2, hr.rh.step g3 hG g2, hr.rm.step g3 hG g2, Only.ext hr.x g3 hr.base⟩, hn.step g3 hG g2⟩
    · rcases g2 k hk with e | e
      · exact hr.base k e
      · exact Nat.le_trans hr.x.size e
    · rcases g2 r hf with e | e
      · exact hr.rr.2 e
      · omega
  obtain ⟨F9, h9, hx9⟩ := stepN h8 hrx hstc
  -- all are dropped
  refine loopW_i (fun y w' => ∃ (k : Nat) (c : List Nat) (Fk : Nat → Prop), k ≤ l.length ∧ y = ((k : Int), ()) ∧ RunX w3 w' r db b7 { X with now := c } Fk xo xh xm own held mark mk root ∧ RowN w' Fk r x l ∧ Great { X with now := c } (l.drop k ++ own) (l ++ own) none) (fun y => (l.length - y.1).toNat)
    ⟨0, X.now, F9, by omega, rfl, h9, hx9, hgC⟩ ?_
  rintro _ w10 ⟨k, c, Fk, hk, rfl, hRk, hxk, hGk⟩
  dsimp only
  have hxlk := hxk.sl.len
  by_cases hkl : k < l.length
  · refine splitW_t (decide_eq_true (by omega)) ?_
    refine draw_i fun w11 he11 _ _ => ?_
    have hR11 := hRk.ext he11
    have hx11 := hxk.ext he11
    refine ptr_i (boxE (l := .ptr) 1 (some ⟨b7, 0, none⟩) hR11.box (by rfl) (by rfl) ?_)
    refine idx_num hx11.sl (by omega) (by omega) ?_
    rw [Int.toNat_natCast]
    have hdr : l.drop k = l.getD k 0 :: l.drop (k + 1) := by
      rw [List.drop_eq_getElem_cons hkl, List.getD_eq_getElem?_getD, List.getElem?_eq_getElem hkl]; rfl
    rw [hdr] at hGk
    refine callW_of (sp_drop hR11.sp hGk) ?_
    rintro _ w12 ⟨rfl, c', hG', hst', _, _⟩
    refine ⟨_, rfl, ?_⟩
    obtain ⟨F', hR12, hx12⟩ := stepN hR11 hx11 hst'
    exact ⟨⟨k + 1, c', F', by omega, by rw [wrap_i64 (by omega) (by omega)]; rfl, hR12, hx12, hG'⟩, by rw [wrap_i64 (by omega) (by omega)]; omega⟩
  obtain rfl : k = l.length := by omega
  refine splitW_f (decide_eq_false (by omega)) ?_
  rw [List.drop_length, List.nil_append] at hGk
  refine ptr_i (boxE (l := .ptr) 1 (some ⟨b7, 0, none⟩) hRk.box (by rfl) (by rfl) ?_)
  have hroomX : ∀ k : Int, 0 ≤ k → k ≤ 20 → 6 ≤ Spa.room { X with now := c } k := by
    intro k hk hk2
    unfold Spa.room
    show 6 ≤ if k < 0 ∨ k > (roomOf X.sup.size - 2) / 4 then 0 else roomOf X.sup.size - 2 - 4 * k
    rw [hsupC]
    show 6 ≤ if k < 0 ∨ k > (roomOf S.sup.size - 2) / 4 then 0 else roomOf S.sup.size - 2 - 4 * k
    rw [hst.sup, hdim.room, if_neg (by have := hdim.size; omega)]
    have := hdim.size
    omega
  show callW _ _ [_, .agg (pgV ((9 : UInt8), [], ByteArray.mk #[108, 97, 116, 101, 114]) (none, 0, 0)).toArray] _ _ w10
  refine callW_of (sp_put (R := own) (p := ((9 : UInt8), [], ByteArray.mk #[108, 97, 116, 101, 114])) hRk.sp hGk (by show X.dev.pen.length ≤ _; rw [hpenC]; simp) (Sli.nil w10 none) (fun a ha => by cases ha) (by decide) (by have := hroomX 0 (by omega) (by omega); show ((0 : Nat) : Int) ≤ _; omega) (by decide)) ?_
  rintro _ w11 ⟨Y, m, e, rfl, hput, hstp⟩
  refine ⟨((m : Int), e, ()), rfl, ?_⟩
  obtain ⟨F11, h11, hx11⟩ := stepN hRk hxk hstp
  have hY : Y.held = X.held ∧ Y.sup = X.sup ∧ ∀ k ∈ l, Y.page k = X.page k := by
    have same : ({ X with now := c } : Spa).held = X.held := rfl
    rcases hput with ⟨_, _, e, _⟩ | ⟨_, _, e, _⟩ | ⟨_, hP', _, _⟩
    · rw [e]; exact ⟨rfl, rfl, fun _ _ => rfl⟩
    · rw [e]; exact ⟨rfl, rfl, fun _ _ => rfl⟩
    · refine ⟨hP'.held, hP'.sup, fun k hk => ?_⟩
      have h1 := hfree k hk
      have hf := (isFree_iff.1 hP'.free).2.1
      have hf : X.held.getD m 0 = 0 := hf
      have hkN : k < X.N := by
        have := hst.great.good.well.lt (hst.great.good.well.root k (List.mem_append_left own hk))
        omega
      exact hP'.other k (fun e => by rw [e] at h1; omega) hkN
  refine ptr_i (boxE (l := .ptr) 1 (some ⟨b7, 0, none⟩) h11.box (by rfl) (by rfl) ?_)
  refine callW_of (sp_abort h11.sp) ?_
  rintro _ w12 ⟨rfl, hsta⟩
  refine ⟨_, rfl, splitW_f (by rfl) ?_⟩
  obtain ⟨F12, h12, hx12⟩ := stepN h11 hx11 hsta
  have hZ : ∀ k ∈ l, Spa.get { Y with now := Y.held, mark := none } k = (keepP u, 0) ∧ List.getD (Spa.now { Y with now := Y.held, mark := none }) k 0 = 1 ∧ k < 4294967296 := by
    intro k hk
    have h1 := hfree k hk
    have hu := hgC.good.well.root k (List.mem_append_left own hk)
    obtain ⟨b1, b2, b3⟩ := used_asked hgC.good hu
    have hask : Spa.asked { Y with now := Y.held, mark := none } k = true := by
      obtain ⟨c1, c2, c3⟩ := asked_iff.1 b1
      refine asked_iff.2 ⟨c1, ?_, ?_⟩
      · show k < Y.sup.blocks.toNat
        rw [hY.2.1]; exact c2
      · show k ∉ Y.sup.pages
        rw [hY.2.1]; exact c3
    have hh : Y.held.getD k 0 = 1 := by rw [hY.1]; exact h1.1
    refine ⟨?_, hh, by omega⟩
    unfold Spa.get
    rw [if_neg (by rw [hask]; simp), if_neg (by show ¬ Y.held.getD k 0 = 0; omega)]
    show Y.page k = _
    rw [hY.2.2 k hk]; exact h1.2
  generalize ({ Y with now := Y.held, mark := none } : Spa) = Z at *
  have hcnt : ∀ k ∈ l, Z.now.getD k 0 = 1 := fun k hk => (hZ k hk).2.1
  refine loopW_i (fun y w' => ∃ k : Nat, k ≤ l.length ∧ y = ((k : Int), ()) ∧ Ext w12 w') (fun y => (l.length - y.1).toNat) ⟨0, by omega, rfl, Ext.refl _⟩ ?_
  rintro _ w13 ⟨k, hk, rfl, hx13⟩
  dsimp only
  by_cases hkl : k < l.length
  rotate_left
  · exact splitW_f (decide_eq_false (by omega)) ⟨rfl, hend (h12.x.trans hx13)⟩
  refine splitW_t (decide_eq_true (by omega)) ?_
  refine draw_i fun w14 he14 _ _ => ?_
  have h14 := h12.ext (hx13.trans he14)
  have hx14 := hx12.ext (hx13.trans he14)
  have h1214 := hx13.trans he14
  have hlk : l[k]? = some (l.getD k 0) := by rw [List.getD_eq_getElem?_getD, List.getElem?_eq_getElem hkl]; rfl
  have hmk : l.getD k 0 ∈ l := List.mem_of_getElem? hlk
  refine ptr_i (boxE (l := .ptr) 1 (some ⟨b7, 0, none⟩) h14.box (by rfl) (by rfl) ?_)
  obtain ⟨pa, hpa, hsp, hcl⟩ := hx14.sl.at_ hlk
  have hcell : w14.cell? (pa.add (Int.toNat ((k : Nat) : Int) * 1)) = some (.int .u32 ((l.getD k 0 : Nat) : Int)) := by
    have := hcl.1
    rw [add_zero] at this
    exact this
  refine guard_i (by omega) ⟨pa, hpa, _, hcell, ?_⟩
  have hold : ∀ {wx : World}, Ext w14 wx → HL wx [(pa.add (Int.toNat ((k : Nat) : Int) * 1), .int .u32 ((l.getD k 0 : Nat) : Int))] ∧ HL wx [((⟨r, 0, none⟩ : Addr).add 1, .pointer (some ⟨b7, 0, none⟩))] := fun hx => ⟨fun q hq => by rw [List.mem_singleton.1 hq]; exact hx.cell hcell, held1F (h14.box.ext hx) (by rfl)⟩
  obtain ⟨hz1, hz2, hz3⟩ := hZ _ hmk
  have hz4 := hcnt _ hmk
  have wk : IntKind.wrap .i64 ((k : Int) + 1) = ((k + 1 : Nat) : Int) := by rw [wrap_i64 (by omega) (by omega)]; rfl
  have fin : ∀ (rq : Nat) (yy : SLC) (wq : World), Blk wq rq (pgV (keepP u) yy) 40 → Ext w14 wq → (drewW <|
      splitW ((0 : Int) != (0 : Int)) ((fun w' => (Value.bool false) = .bool true ∧ Ext w w')) <|
      ldW .str ((⟨rq, 0, none⟩ : Addr).add 2) fun (u48 : ByteArray) =>
      newW (.cells #[(.int .u8 (u.toNat : Int))] 5) fun (r49 : Nat) =>
      heldW [[(((⟨rq, 0, none⟩ : Addr).add 2), (.string u48))]] <|
      runW Tryz.prog (Go.convert 62 9 (.slice (some (⟨r49, 0, none⟩ : Addr)) 1 1)) .str fun (u50 : ByteArray) =>
      heldW [[(((⟨rq, 0, none⟩ : Addr).add 2), (.string u48))]] <|
      splitW (!(u48.toList == u50.toList)) ((fun w' => (Value.bool false) = .bool true ∧ Ext w w')) <|
      ptrW (some ⟨r, 0, none⟩) fun (p51 : Addr) =>
      ldW .ptr (p51.add 1) fun (u52 : Option Addr) =>
      guardW (0 ≤ (k : Int) ∧ (k : Int) < ((x.2.1 : Nat) : Int)) <|
      ptrW x.1 fun (p53 : Addr) =>
      ldW (.int .u32) (p53.add (Int.toNat (k : Int) * 1)) fun (u54 : Int) =>
      callW Tryz.prog 20 [(.pointer u52), (.int .u32 u54)] (.one (.one (.int .i64))) fun (u55 : Int) =>
      splitW (u55 != (1 : Int)) ((fun w' => (Value.bool false) = .bool true ∧ Ext w w')) <| (fun w' => (∃ k' : Nat, k' ≤ l.length ∧ (IntKind.wrap .i64 ((k : Int) + 1), ()) = ((k' : Int), ()) ∧ Ext w12 w') ∧ ((l.length : Int) - IntKind.wrap .i64 ((k : Int) + 1)).toNat < ((l.length : Int) - (k : Int)).toNat)) wq := by
    intro rq yy wq hbq heq
    refine draw_i fun wr her _ _ => ?_
    refine splitW_f (by rfl) ?_
    have hbr := hbq.ext her
    refine boxF (l := .str) 2 (mkB [u]) hbr (by rfl) ?_
    refine new_i fun r49 ws hbs hes _ _ => ?_
    have heS := (heq.trans her).trans hes
    refine h1_i (held1F (hbr.ext hes) (by rfl)) (blk_byte (by exact hbs) ?_)
    refine h1_i (held1F (hbr.ext hes) (by rfl)) ?_
    rw [str_beq, decide_eq_true rfl]
    refine splitW_f (by rfl) ?_
    have hs := h14.ext heS
    have hxs := hx14.ext heS
    refine ptr_i (boxE (l := .ptr) 1 (some ⟨b7, 0, none⟩) hs.box (by rfl) (by rfl) ?_)
    refine idx_num hxs.sl (by omega) (by omega) ?_
    rw [Int.toNat_natCast]
    refine callW_of (sp_count hs.sp hz3) ?_
    rintro _ wt ⟨rfl, hwt⟩
    refine ⟨_, rfl, ?_⟩
    rw [hwt, hz4]
    refine splitW_f (by rfl) ?_
    rw [wk]
    exact ⟨⟨k + 1, by omega, rfl, h1214.trans heS⟩, by omega⟩
  refine ⟨?_, ?_⟩
  · refine callW_of (sp_get h14.sp hz3) ?_
    rintro _ w15 ⟨yy, rfl, hoy, he15⟩
    rw [hz1] at hoy ⊢
    refine ⟨(pgT (keepP u) yy, 0, ()), rfl, ?_⟩
    refine new_i fun r47 w16 hb16 he16 hr16 _ => ?_
    refine heldc (hold (he15.trans he16)).1 (heldc (hold (he15.trans he16)).2 (held0 ?_))
    refine refill (vs := pgV (keepP u) yy) hb16 (by rfl) (pgV_one _ yy) (by rfl) fun w17 hb17 hx17 hk17 hz17 => ?_
    exact fin r47 yy w17 hb17 (hx17 w14 (he15.trans he16) (by have := he15.size; omega))
  · refine new_i fun r56 w15 hb15 he15 hr15 _ => ?_
    refine heldc (hold he15).1 (heldc (hold he15).2 (held0 ?_))
    refine callW_of (sp_get (h14.ext he15).sp hz3) ?_
    rintro _ w16 ⟨yy, rfl, hoy, he16⟩
    rw [hz1] at hoy ⊢
    refine ⟨(pgT (keepP u) yy, 0, ()), rfl, ?_⟩
    refine refill (vs := pgV (keepP u) yy) (hb15.ext he16) (by rfl) (pgV_one _ yy) (by rfl) fun w17 hb17 hx17 hk17 hz17 => ?_
    exact fin r56 yy w17 hb17 (hx17 w14 (he15.trans he16) (by omega))
end Go.Proofs.YtjdmggaeagnolaaGreat.V
/- Law 13: SpaceRefused. -/
set_option linter.unusedVariables false
set_option linter.unusedSimpArgs false
namespace Go.Proofs.YtjdmggaeagnolaaGreat.V
open Go Go.Proofs Go.RowKit Crc
variable {w : World} {b db : Nat} {S : Spa} {F : Nat → Prop} {R H : List Nat} {M : Option (List Nat)}
theorem sp_image (h : SpAt w b db S F) : Calls Tryz.prog 32 #[.pointer (some ⟨db, 0, none⟩)] w (Ret fun v w' => v = .string (mkB S.dev.image) ∧ Ext w w') := by
  obtain ⟨Fd, x, hb, hr, nb, nr, m, h⟩ := h
  exact image_calls h.dev
theorem sp_pending (h : SpAt w b db S F) (hn : S.dev.pen.length ≤ 1000000) : Calls Tryz.prog 33 #[.pointer (some ⟨db, 0, none⟩)] w (Ret fun v w' => ∃ A c, v = .slice A S.dev.pen.length c ∧ Ext w w') := by
  obtain ⟨Fd, x, hb, hr, nb, nr, m, h⟩ := h
  refine (pending_calls h.dev hn).mono (Ret.mono ?_)
  rintro v w' ⟨A, c, rfl, _, he⟩
  exact ⟨A, c, rfl, he⟩
theorem sp_putbad (h : SpAt w b db S F) (hg : Good S R) (hpen : S.dev.pen.length ≤ 900000) {p : Page} {A : Option Addr} {n c : Nat} (hs : Sli (numE .u32) w A n p.2.1) (hk : ∀ k ∈ p.2.1, k < 4294967296) (hA : 0 < n → ∀ a, A = some a → ¬ F a.block) (hd : p.2.2.size ≤ 1000000000)
    (hE : S.putE p = 2 ∨ S.putE p = 8) : Calls Tryz.prog 13 #[.pointer (some ⟨b, 0, none⟩), .agg (pgV p (A, n, c)).toArray] w (Ret fun v w' => ∃ e : Int, (e = 2 ∨ e = 8) ∧ v = .tuple #[.int .u32 0, .int .i64 e] ∧ StepS w b db F S w') := by
  obtain ⟨Fd, x, hb, hr, nb, nr, m, h⟩ := h
  have hP : S.put p = (S, 0, S.putE p) := by unfold Spa.put; rw [if_pos (by omega)]
  refine (putS_calls0 h hg.h01 (by have := hg.gen; omega) (by omega) p hs hk hA hd).mono (Ret.mono ?_)
  rintro v w' ⟨rfl, hst⟩
  rw [hP] at hst ⊢
  exact ⟨_, hE, rfl, hst⟩
def noneE (S : Spa) (n : Nat) : Int := if S.asked n = false then 2 else 8
theorem noneE_ne (S : Spa) (n : Nat) : noneE S n ≠ 0 := by unfold noneE; split <;> decide
theorem get_none {n : Nat} (h0 : S.now.getD n 0 = 0) : S.get n = (page0, noneE S n) := by
  unfold Spa.get noneE
  split
  · rfl
  · first | rfl | rw [if_pos h0]
theorem atE_none (hok : S.Ok) {n : Nat} (h0 : S.now.getD n 0 = 0) (ha : S.asked n = true) : atE S.now n = 8 := by
  obtain ⟨a1, a2, a3⟩ := asked_iff.1 ha
  have := hok.now
  unfold atE
  rw [if_neg (by omega), if_pos h0]
theorem sp_share0 (h : SpAt w b db S F) {n : Nat} (hn : n < 4294967296) (h0 : S.now.getD n 0 = 0) :
    Calls Tryz.prog 25 #[.pointer (some ⟨b, 0, none⟩), .int .u32 (n : Int)] w (Ret fun v w' => v = .int .i64 (noneE S n) ∧ StepS w b db F S w') := by
  obtain ⟨Fd, x, hb, hr, nb, nr, m, h⟩ := h
  refine (share_calls h hn).mono (Ret.mono ?_)
  rintro v w' ⟨rfl, hS, hO⟩
  have e : S.share n = (S, noneE S n) := by
    unfold Spa.share noneE
    split
    · rfl
    · rename_i ha
      have ha : S.asked n = true := by simpa using ha
      have hE : addE S.now n = 8 := by unfold addE; rw [atE_none h.ok h0 ha, if_neg (by decide)]
      have hL : addL S.now n = S.now := by unfold addL; rw [hE, if_neg (by decide)]
      rw [hE, hL]
  rw [e] at hS ⊢
  exact ⟨rfl, F, hS.toAt, fun k hk => .inl hk, hO⟩
theorem sp_drop0 (h : SpAt w b db S F) {n : Nat} (hn : n < 4294967296) (h0 : S.now.getD n 0 = 0) :
    Calls Tryz.prog 16 #[.pointer (some ⟨b, 0, none⟩), .int .u32 (n : Int)] w (Ret fun v w' => v = .int .i64 (noneE S n) ∧ StepS w b db F S w') := by
  obtain ⟨Fd, x, hb, hr, nb, nr, m, h⟩ := h
  refine (drop_calls h hn (c' := S.now) (e := noneE S n) (fun ha => ?_) (fun ha => ⟨rfl, by unfold noneE; rw [if_pos ha]⟩)).mono (Ret.mono ?_)
  · have hE := atE_none h.ok h0 ha
    have e : noneE S n = atE S.now n := by unfold noneE; rw [if_neg (by rw [ha]; simp), hE]
    rw [e]
    exact Drp.bad (by omega) (by rw [hE]; decide)
  · rintro v w' ⟨rfl, hS, hO⟩
    exact ⟨rfl, F, hS.toAt, fun k hk => .inl hk, hO⟩
theorem sp_commit0 (h : SpAt w b db S F) (hg : Great S R H M) {n : Nat} (hn : n < 4294967296) (hn0 : n ≠ 0) (h0 : S.now.getD n 0 = 0) (hpen : S.dev.pen.length ≤ 900000) :
    Calls Tryz.prog 24 #[.pointer (some ⟨b, 0, none⟩), .int .u32 (n : Int)] w (Ret fun v w' => v = .int .i64 (noneE S n) ∧ StepS w b db F S w') := by
  obtain ⟨Fd, x, hb, hr, nb, nr, m, h⟩ := h
  have hE : S.comE n = noneE S n := by
    unfold Spa.comE noneE
    by_cases ha : S.asked n = false
    · rw [if_pos ⟨hn0, ha⟩, if_pos ha]
    · rw [if_neg (fun e => ha e.2), if_pos ⟨hn0, h0⟩, if_neg ha]
  have e : S.commit n = (S, noneE S n) := by unfold Spa.commit; rw [hE, if_pos (noneE_ne S n)]
  refine (commitS_calls h hg.good.h01 (hg.heldOK.pgsOk hg.good) (by have := hg.good.gen; omega) hpen hn).mono (Ret.mono ?_)
  rintro v w' ⟨rfl, hst⟩
  rw [e] at hst ⊢
  exact ⟨rfl, hst⟩
def badK (S : Spa) (k : Nat) : Prop := S.now.getD k 0 = 0 ∨ k < 2
instance (S : Spa) (k : Nat) : Decidable (badK S k) := by unfold badK; infer_instance
def anyBad (S : Spa) (l : List Nat) : Bool := l.any fun k => decide (badK S k)
theorem anyBad_iff {S : Spa} {l : List Nat} : anyBad S l = true ↔ ∃ k ∈ l, badK S k := by simp [anyBad]
theorem bad_putE {p : Page} (h : (∃ k ∈ p.2.1, badK S k) ∨ p.1.toNat < 3) : S.putE p = 2 ∨ S.putE p = 8 := by
  unfold Spa.putE
  split
  · exact .inl rfl
  · rename_i hno
    rcases h with ⟨k, hk, hb⟩ | h
    · have ha : S.asked k = true := by
        cases hq : S.asked k with
        | true => rfl
        | false => exact absurd (.inr (.inr ⟨k, hk, hq⟩)) hno
      rcases hb with hb | hb
      · rw [if_pos ⟨k, hk, hb⟩]
        exact .inr rfl
      · have := (asked_iff.1 ha).1; omega
    · exact absurd (.inl h) hno
theorem refused_law {w : World} {size blocks : Int} {A : Option Addr} {n c : Nat} {acts : List ActV} (ha : Sli actE w A n acts) (hq : ∀ a ∈ acts, actQ a) {p : Page} {xk : SLC} (hk : Sli (numE .u32) w xk.1 xk.2.1 p.2.1) (hk32 : ∀ k ∈ p.2.1, k < 4294967296) {m : Nat} (hm : m < 4294967296) :
    Calls Tryz.prog 5 #[.agg #[.int .i64 size, .int .i64 blocks], .slice A n c, .agg (pgV p xk).toArray, .int .u32 (m : Int)] w (Ret fun v w' => v = .bool true ∧ Ext w w') := by
  apply calls5
  unfold S5
  have hal := ha.len
  have hkl := hk.len
  refine new_i fun r1 w0 hb0 he0 hr0 hz0 => ?_
  refine new_i fun r2 w1 hp1 he01 hr2 hz1 => ?_
  have hp1 : Blk w1 r2 (pgV p xk) _ := hp1
  have hb1 := hb0.ext he01
  have he1 := he0.trans he01
  refine callW_of (lives_calls w1) ?_
  rintro _ w2 ⟨rfl, he2⟩
  refine ⟨_, rfl, splitW_f (by rfl) ?_⟩
  have hb2 := hb1.ext he2
  have he02 := he1.trans he2
  refine boxA (ls := [.int .i64, .int .i64]) (size, blocks, ()) hb2 rfl ?_
  refine callW_of (lightgeo_calls w2 size blocks) ?_
  rintro _ w3 ⟨rfl, he3⟩
  refine ⟨_, rfl, ?_⟩
  have he03 := he02.trans he3
  refine splitW_i (fun _ => ⟨rfl, he03⟩) (fun hlg => ?_)
  refine callW_of (light_calls (ha.ext he03)) ?_
  rintro v w4 ⟨hv, hw4⟩
  obtain ⟨q, rfl, hql⟩ : ∃ q : Bool, v = .bool q ∧ (q = true → n ≤ 60 ∧ ∀ a ∈ acts, a.2.2.2.2.size ≤ 600) := by
    rcases hv with ⟨e, h1, h2⟩ | e
    · exact ⟨true, e, fun _ => ⟨h1, h2⟩⟩
    · exact ⟨false, e, fun h => by cases h⟩
  refine ⟨q, rfl, ?_⟩
  rw [hw4]
  refine splitW_i (fun _ => ⟨rfl, he03⟩) (fun hqt => ?_)
  have hqt : q = true := by cases q <;> simp_all
  obtain ⟨hn60, h600⟩ := hql hqt
  have hb3 := hb2.ext he3
  have hp3 := (hp1.ext he2).ext he3
  refine boxF (l := .slc) 1 xk hp3 (by rfl) ?_
  refine splitW_i (fun _ => ⟨rfl, he03⟩) (fun hk40 => ?_)
  have hk40 := of_decide_eq_false hk40
  refine boxF (l := .str) 2 p.2.2 hp3 (by rfl) ?_
  refine splitW_i (fun _ => ⟨rfl, he03⟩) (fun hd6 => ?_)
  have hd6 := of_decide_eq_false hd6
  refine boxA (ls := [.int .i64, .int .i64]) (size, blocks, ()) hb3 rfl ?_
  refine callW_of (begin_calls w3 size blocks) ?_
  rintro v w5 hv
  obtain ⟨pp, rfl, he5, hpp⟩ : ∃ p : Option Addr, v = .pointer p ∧ Ext w3 w5 ∧ (p = none ∨ (geoOK size blocks = true ∧ chk (fmtS size blocks.toNat) = 0 ∧ ∃ r db b F, p = some ⟨r, 0, none⟩ ∧ RunX w3 w5 r db b (formatS (dev0 size blocks)) F (none, 0, 0) (none, 0, 0) (none, 0, 0) [] [] [] false 0)) := by
    rcases hv with ⟨e, he⟩ | ⟨h1, h2, r, db, b, F, e, hR⟩
    · exact ⟨none, e, he, .inl rfl⟩
    · exact ⟨_, e, hR.x, .inr ⟨h1, h2, r, db, b, F, rfl, hR⟩⟩
  refine ⟨pp, rfl, ?_⟩
  rcases hpp with rfl | ⟨hgeo, hchk, r, db, b, F, rfl, hR⟩
  · exact splitW_t (by rfl) ⟨rfl, he03.trans he5⟩
  refine splitW_f (by rfl) ?_
  obtain ⟨N, rfl⟩ := nat_of_geo hgeo
  rw [Int.toNat_natCast] at hchk
  have hlb := light_bounds (by simpa using hlg) hgeo
  have hI0 := Inv.format hgeo hchk
  have ha3 := ha.ext he03
  have hk3 := hk.ext he03
  refine acts_loop ha3 hq h600 hn60 (by omega) ⟨b, _, F, _, _, _, [], [], [], false, 0, hR, hI0⟩ ?_
  rintro w7 ⟨b7, S, F7, xo, xh, xm, own, held, mark, mk, root, h7, hI⟩
  have hNN := hI.n
  have hdim := hI.gr.good.dims
  have hgen := hI.gen
  have hpl := hI.pl
  have hgr := hI.gr
  have hend : ∀ {w' : World}, Ext w3 w' → Ext w w' := fun h => he03.trans h
  refine draw_i fun w8 he8 _ _ => ?_
  have h8 := h7.ext he8
  refine ptr_i (boxE (l := .ptr) 1 (some ⟨b7, 0, none⟩) h8.box (by rfl) (by rfl) ?_)
  refine ptr_i (boxE (l := .ptr) 1 (some ⟨b7, 0, none⟩) h8.box (by rfl) (by rfl) ?_)
  refine callW_of (sp_count h8.sp hm) ?_
  rintro _ w9 ⟨rfl, hw9⟩
  refine ⟨_, rfl, ?_⟩
  rw [hw9]
  refine h1_i (held1F h8.box (by rfl)) ?_
  refine callW_of (sp_free h8.sp) ?_
  rintro _ w10 ⟨rfl, he10⟩
  refine ⟨_, rfl, ?_⟩
  refine draw_i fun w11 he11 _ _ => ?_
  have h11 := (h8.ext he10).ext he11
  refine ptr_i (box0 (l := .ptr) (some ⟨db, 0, none⟩) h11.box (by rfl) ?_)
  refine ptr_i (box0 (l := .ptr) (some ⟨db, 0, none⟩) h11.box (by rfl) ?_)
  refine callW_of (sp_image h11.sp) ?_
  rintro _ w12 ⟨rfl, he12⟩
  refine ⟨_, rfl, ?_⟩
  have h12 := h11.ext he12
  refine h1_i (held1Z h12.box (by rfl)) ?_
  refine callW_of (sp_pending h12.sp (by omega)) ?_
  rintro _ w13 ⟨Ap, cp, rfl, he13⟩
  refine ⟨(Ap, S.dev.pen.length, cp), rfl, ?_⟩
  have h13 := h12.ext he13
  -- is some kid bad?
  refine loopW_i (fun y w' => ∃ i : Nat, i ≤ xk.2.1 ∧ y = (anyBad S (p.2.1.take i), (i : Int), ()) ∧ Ext w13 w') (fun y => (xk.2.1 - y.2.1).toNat) ⟨0, by omega, by simp [anyBad], Ext.refl _⟩ ?_
  rintro _ w14 ⟨i, hi, rfl, hx14⟩
  dsimp only
  have h14 := h13.ext hx14
  have hp14 := hp3.ext h14.x
  have hk14 := hk3.ext h14.x
  refine boxF (l := .slc) 1 xk hp14 (by rfl) ?_
  by_cases hlt : i < xk.2.1
  · refine splitW_t (decide_eq_true (by omega)) ?_
    refine draw_i fun w15 he15 _ _ => ?_
    have h15 := h14.ext he15
    have hx15 := hx14.trans he15
    have hki : p.2.1[i]? = some (p.2.1.getD i 0) := by rw [List.getD_eq_getElem?_getD, List.getElem?_eq_getElem (by omega)]; rfl
    have htk : p.2.1.take (i + 1) = p.2.1.take i ++ [p.2.1.getD i 0] := take_snoc hki
    have wi : IntKind.wrap .i64 ((i : Int) + 1) = ((i + 1 : Nat) : Int) := by rw [wrap_i64 (by omega) (by omega)]; rfl
    have nxt : ∀ {q : Bool}, q = anyBad S (p.2.1.take (i + 1)) → ((∃ j : Nat, j ≤ xk.2.1 ∧ (q, IntKind.wrap .i64 ((i : Int) + 1), ()) = (anyBad S (p.2.1.take j), (j : Int), ()) ∧ Ext w13 w15) ∧ ((xk.2.1 : Int) - IntKind.wrap .i64 ((i : Int) + 1)).toNat < ((xk.2.1 : Int) - (i : Int)).toNat) := by
      rintro _ rfl
      rw [wi]
      exact ⟨⟨i + 1, by omega, rfl, hx15⟩, by omega⟩
    by_cases hbad : ∃ k ∈ p.2.1.take i, badK S k
    · rw [anyBad_iff.2 hbad]
      refine splitW_t (by rfl) (nxt ?_)
      rw [anyBad_iff.2]
      obtain ⟨k, hk1, hk2⟩ := hbad
      exact ⟨k, by rw [htk]; exact List.mem_append_left _ hk1, hk2⟩
    · rw [show anyBad S (p.2.1.take i) = false by rw [Bool.eq_false_iff]; exact fun e => hbad (anyBad_iff.1 e)]
      refine splitW_f (by rfl) ?_
      have hdec : ∀ q : Bool, (q = true ↔ badK S (p.2.1.getD i 0)) → q = anyBad S (p.2.1.take (i + 1)) := by
        intro q hq
        rw [Bool.eq_iff_iff, anyBad_iff, hq]
        constructor
        · intro hb
          exact ⟨_, by rw [htk]; simp, hb⟩
        · rintro ⟨k, hk1, hk2⟩
          rw [htk] at hk1
          rcases List.mem_append.1 hk1 with e | e
          · exact absurd ⟨k, e, hk2⟩ hbad
          · rw [← List.mem_singleton.1 e]; exact hk2
      refine ptr_i (boxE (l := .ptr) 1 (some ⟨b7, 0, none⟩) h15.box (by rfl) (by rfl) ?_)
      have hp15 := hp14.ext he15
      refine boxF (l := .slc) 1 xk hp15 (by rfl) ?_
      refine idx_num (hk14.ext he15) (by omega) (by omega) ?_
      rw [Int.toNat_natCast]
      have hk32' := hk32 _ (List.mem_of_getElem? hki)
      refine callW_of (sp_count h15.sp hk32') ?_
      rintro _ w16 ⟨rfl, hw16⟩
      refine ⟨_, rfl, ?_⟩
      rw [hw16]
      refine splitW_i (fun hz => ?_) (fun hz => ?_)
      · have hz := beq_iff_eq.1 hz
        exact nxt (hdec true ⟨fun _ => .inl (by omega), fun _ => rfl⟩)
      · have hz := beq_eq_false_iff_ne.1 hz
        refine boxF (l := .slc) 1 xk hp15 (by rfl) ?_
        refine idx_num (hk14.ext he15) (by omega) (by omega) ?_
        rw [Int.toNat_natCast]
        refine nxt (hdec _ ?_)
        rw [decide_eq_true_iff]
        unfold badK
        omega
  obtain rfl : i = xk.2.1 := by omega
  refine splitW_f (decide_eq_false (by omega)) ?_
  rw [List.take_of_length_le (by omega)]
  -- Put, if so
  have fin : ∀ {w' : World} {F' : Nat → Prop}, RunX w3 w' r db b7 S F' xo xh xm own held mark mk root → (∃ F', RunX w3 w' r db b7 S F' xo xh xm own held mark mk root) := fun h => ⟨_, h⟩
  refine joinW_s (fun _ w' => ∃ F', RunX w3 w' r db b7 S F' xo xh xm own held mark mk root) ?_ (fun J40 hJ40 => ?_)
  rotate_left
  · refine joinW_s (fun y w' => y = (anyBad S p.2.1 || decide (p.1.toNat < 3), ()) ∧ w' = w14) ?_ (fun J42 hJ42 => ?_)
    rotate_left
    · refine splitW_i (fun hbad => hJ42 _ _ ⟨by rw [hbad, Bool.true_or], rfl⟩) (fun hbad => ?_)
      refine box0 (l := .int .u8) (p.1.toNat : Int) hp14 (by rfl) (hJ42 _ _ ⟨?_, rfl⟩)
      refine Prod.ext ?_ rfl
      show decide ((p.1.toNat : Int) < 3) = _
      rw [hbad, Bool.false_or]
      exact decide_eq_decide.2 (by omega)
    rintro _ w15 ⟨rfl, hw15⟩
    rw [hw15]
    refine splitW_i (fun hb => ?_) (fun _ => hJ40 _ _ ⟨F7, h14⟩)
    have hb : (∃ k ∈ p.2.1, badK S k) ∨ p.1.toNat < 3 := by
      have hb := Bool.or_eq_true_iff.1 hb
      exact hb.imp anyBad_iff.1 of_decide_eq_true
    refine draw_i fun w16 he16 _ _ => ?_
    have h16 := h14.ext he16
    refine ptr_i (boxE (l := .ptr) 1 (some ⟨b7, 0, none⟩) h16.box (by rfl) (by rfl) ?_)
    refine boxA (ls := pgLs) (pgT p xk) (hp14.ext he16) rfl ?_
    have hs16 := hk14.ext he16
    refine callW_of (sp_putbad h16.sp hgr.good (by omega) hs16 hk32 (fun h0 a haa hf => ?_) (by omega) (bad_putE hb)) ?_
    · have hpos : 0 < p.2.1.length := by rw [hs16.len]; exact h0
      obtain ⟨a', ha', _, hcl⟩ := (hk.ext (he03)).at_ (i := 0) (x := p.2.1.getD 0 0) (by rw [List.getD_eq_getElem?_getD, List.getElem?_eq_getElem hpos]; rfl)
      rw [ha'] at haa
      injection haa with haa
      subst haa
      have h1 := World.block_lt_of_cell? _ _ hcl.1
      have h2 := h16.base _ hf
      have h3 : ((a'.add (0 * (numE .u32).k)).add 0).block = a'.block := by unfold Addr.add; split <;> split <;> simp_all
      omega
    rintro _ w17 ⟨e, he, rfl, hst⟩
    refine ⟨(0, e, ()), rfl, ?_⟩
    obtain ⟨F', h17⟩ := h16.step hst
    rcases he with rfl | rfl
    · exact splitW_f (by rfl) (hJ40 _ _ ⟨F', h17⟩)
    · exact splitW_t (by rfl) (splitW_f (by rfl) (hJ40 _ _ ⟨F', h17⟩))
  rintro _ w15 ⟨F15, h15⟩
  -- what is not there
  refine joinW_s (fun _ w' => ∃ F', RunX w3 w' r db b7 S F' xo xh xm own held mark mk root) ?_ (fun J49 hJ49 => ?_)
  rotate_left
  · refine splitW_i (fun hz => ?_) (fun _ => hJ49 _ _ ⟨F15, h15⟩)
    have hz : S.now.getD m 0 = 0 := by have := beq_iff_eq.1 hz; omega
    have hm0 : m ≠ 0 := fun e => by have := hgr.good.well.head.1; rw [e] at hz; omega
    refine ptr_i (boxE (l := .ptr) 1 (some ⟨b7, 0, none⟩) h15.box (by rfl) (by rfl) ?_)
    refine callW_of (sp_get h15.sp hm) ?_
    rintro _ w16 ⟨yy, rfl, hoy, he16⟩
    rw [get_none hz] at hoy ⊢
    refine ⟨(pgT page0 yy, noneE S m, ()), rfl, ?_⟩
    refine new_i fun r54 w17 hb17 he17 hr17 _ => ?_
    refine refill (vs := pgV page0 yy) hb17 (by rfl) (pgV_one _ yy) (by rfl) fun w18 hb18 hx18 hk18 hz18 => ?_
    have hx1518 : Ext w15 w18 := hx18 w15 (he16.trans he17) (by have := he16.size; omega)
    refine draw_i fun w19 he19 _ _ => ?_
    have h19 := (h15.ext hx1518).ext he19
    refine ptr_i (boxE (l := .ptr) 1 (some ⟨b7, 0, none⟩) h19.box (by rfl) (by rfl) ?_)
    refine ptr_i (boxE (l := .ptr) 1 (some ⟨b7, 0, none⟩) h19.box (by rfl) (by rfl) ?_)
    refine ptr_i (boxE (l := .ptr) 1 (some ⟨b7, 0, none⟩) h19.box (by rfl) (by rfl) ?_)
    refine callW_of (sp_share0 h19.sp hm hz) ?_
    rintro _ w20 ⟨rfl, hst20⟩
    refine ⟨_, rfl, ?_⟩
    obtain ⟨F20, h20⟩ := h19.step hst20
    refine h2_i (held1F h20.box (by rfl)) (held1F h20.box (by rfl)) ?_
    refine callW_of (sp_drop0 h20.sp hm hz) ?_
    rintro _ w21 ⟨rfl, hst21⟩
    refine ⟨_, rfl, ?_⟩
    obtain ⟨F21, h21⟩ := h20.step hst21
    refine h1_i (held1F h21.box (by rfl)) ?_
    refine callW_of (sp_commit0 h21.sp hgr hm hm0 hz (by omega)) ?_
    rintro _ w22 ⟨rfl, hst22⟩
    refine ⟨_, rfl, ?_⟩
    obtain ⟨F22, h22⟩ := h21.step hst22
    refine splitW_f (beq_eq_false_iff_ne.2 (noneE_ne S m)) (splitW_f (bne_eq_false_iff_eq.2 rfl) (splitW_f (bne_eq_false_iff_eq.2 rfl) (splitW_t (bne_iff_ne.2 (by omega)) (splitW_f (bne_eq_false_iff_eq.2 rfl) (splitW_f (beq_eq_false_iff_ne.2 (by omega)) (hJ49 _ _ ⟨F22, h22⟩))))))
  rintro _ w16 ⟨F16, h16⟩
  refine ptr_i (boxE (l := .ptr) 1 (some ⟨b7, 0, none⟩) h16.box (by rfl) (by rfl) ?_)
  refine callW_of (sp_free h16.sp) ?_
  rintro _ w17 ⟨rfl, he17⟩
  refine ⟨_, rfl, splitW_t (beq_self_eq_true _) ?_⟩
  have h17 := h16.ext he17
  refine ptr_i (boxE (l := .ptr) 1 (some ⟨b7, 0, none⟩) h17.box (by rfl) (by rfl) ?_)
  refine callW_of (sp_count h17.sp hm) ?_
  rintro _ w18 ⟨rfl, hw18⟩
  refine ⟨_, rfl, splitW_t (beq_self_eq_true _) ?_⟩
  rw [hw18]
  refine ptr_i (box0 (l := .ptr) (some ⟨db, 0, none⟩) h17.box (by rfl) ?_)
  refine callW_of (sp_image h17.sp) ?_
  rintro _ w19 ⟨rfl, he19⟩
  refine ⟨_, rfl, splitW_t (by rw [str_beq, decide_eq_true rfl]) ?_⟩
  have h19 := h17.ext he19
  refine ptr_i (box0 (l := .ptr) (some ⟨db, 0, none⟩) h19.box (by rfl) ?_)
  refine callW_of (sp_pending h19.sp (by omega)) ?_
  rintro _ w20 ⟨A20, c20, rfl, he20⟩
  refine ⟨(A20, S.dev.pen.length, c20), rfl, ?_, hend (h19.x.trans he20)⟩
  dsimp only
  rw [beq_self_eq_true]
end Go.Proofs.YtjdmggaeagnolaaGreat.V
/- Spaces of one's own, with the blocks that they own. -/
set_option linter.unusedVariables false
set_option linter.unusedSimpArgs false
namespace Go.Proofs.YtjdmggaeagnolaaGreat.V
open Go Go.Proofs Go.RowKit Crc
structure Spx (w0 w : World) (b db : Nat) (S : Spa) (F : Nat → Prop) : Prop where
  sp : SpAt w b db S F
  base : ∀ k, F k → w0.heap.size ≤ k
  x : Ext w0 w
variable {w0 w w' : World} {b db : Nat} {S S' : Spa} {F : Nat → Prop}
theorem Spx.ext (h : Spx w0 w b db S F) (he : Ext w w') : Spx w0 w' b db S F := ⟨h.sp.ext he, h.base, h.x.trans he⟩
theorem Spx.step (h : Spx w0 w b db S F) (hst : StepS w b db F S' w') : ∃ F', Spx w0 w' b db S' F' ∧ (∀ k, F' k → F k ∨ w.heap.size ≤ k) ∧ Only F w w' := by
  obtain ⟨F', g1, g2, g3⟩ := hst
  refine ⟨F', ⟨g1, fun k hk => ?_, Only.ext h.x g3 h.base⟩, g2, g3⟩
  rcases g2 k hk with e | e
  · exact h.base k e
  · exact Nat.le_trans h.x.size e
theorem Spx.step' (h : Spx w0 w b db S F) (hst : StepS w b db F S' w') : ∃ F', Spx w0 w' b db S' F' := by
  obtain ⟨F', h1, _⟩ := h.step hst
  exact ⟨F', h1⟩
theorem Spx.lt (h : Spx w0 w b db S F) : ∀ k, F k → k < w.heap.size := h.sp.lt
theorem Spx.only {G : Nat → Prop} (h : Spx w0 w b db S F) (o : Only G w w') (hFG : ∀ j, F j → ¬ G j) (hG : ∀ k, G k → w0.heap.size ≤ k) : Spx w0 w' b db S F := ⟨h.sp.only o hFG, h.base, Only.ext h.x o hG⟩
end Go.Proofs.YtjdmggaeagnolaaGreat.V
/- Law 13: SpaceNames. -/
set_option linter.unusedVariables false
set_option linter.unusedSimpArgs false
namespace Go.Proofs.YtjdmggaeagnolaaGreat.V
open Go Go.Proofs Go.RowKit Crc
theorem na (n : Nat) : (mkB (timesL [97] n)).size = n := by rw [mkB_size, timesL_length]; simp
theorem times97 (w : World) (n : Nat) (hn : n ≤ 1000000) : Calls Tryz.prog 14 #[.string (ByteArray.mk #[97]), .int .i64 (n : Int)] w (Ret fun v w' => v = .string (mkB (timesL [97] n)) ∧ w' = w) := by
  have B97 : B (ByteArray.mk #[97]) = [97] := rfl
  refine (times_calls w (ByteArray.mk #[97]) (n := (n : Int)) (by omega) ?_ ?_).mono (Ret.mono ?_)
  · rw [B97, Int.toNat_natCast]; show 1 * n ≤ _; omega
  · rw [B97]; decide
  · rintro v w' ⟨rfl, rfl⟩
    rw [B97, Int.toNat_natCast]
    exact ⟨rfl, rfl⟩
theorem commitnil_calls (w : World) : Calls Tryz.prog 24 #[.pointer none, .int .u32 0] w (Ret fun v w' => v = .int .i64 1 ∧ w' = w) := by
  apply calls24
  unfold S24
  refine joinW_s (fun _ _ => False) (fun _ _ h => h.elim) (fun J hJ => ?_)
  exact splitW_t (by rfl) ⟨rfl, rfl⟩
theorem dropnil_calls (w : World) : Calls Tryz.prog 16 #[.pointer none, .int .u32 2] w (Ret fun v w' => v = .int .i64 1 ∧ w' = w) := by
  apply calls16
  unfold S16
  exact splitW_t (by rfl) ⟨rfl, rfl⟩
theorem blank_no : ¬ opnOK (dev0 128 12) := by
  intro h
  have h1 : opnC (dev0 128 12) = chooseS (B (zeroB 128)) (B (zeroB 128)) := by
    unfold opnC
    congr 2 <;> (unfold Dev.read dev0; rw [if_neg (by decide)]; rfl)
  have h2 := h.1
  rw [h1] at h2
  have hz := getS_zero 128
  unfold chooseS at h2
  rw [if_pos ⟨hz, hz⟩] at h2
  cases h2
theorem wide_long : chk (fmtS 128 1400) = 3 := by
  have h := chk_fmt (size := 128) (N := 1400) (by decide)
  rw [h]
  decide
theorem sp_open_blank {w0 w : World} {db : Nat} (h : DevNew w0 (dev0 128 12) db w) : Calls Tryz.prog 12 #[.pointer (some ⟨db, 0, none⟩)] w (Ret fun v w' => v = .tuple #[.pointer none, .int .i64 10] ∧ Ext w w') := by
  obtain ⟨F, h1, _, _⟩ := h
  refine (open_calls h1).mono (Ret.mono ?_)
  rintro v w' ⟨he, ⟨_, rfl⟩ | ⟨ho, _⟩⟩
  · exact ⟨rfl, he⟩
  · exact absurd ho blank_no
variable {w : World} {b db : Nat} {S : Spa} {F : Nat → Prop}
theorem sp_putE (h : SpAt w b db S F) {R : List Nat} (hg : Good S R) (hpen : S.dev.pen.length ≤ 900000) {p : Page} {A : Option Addr} {n c : Nat} (hs : Sli (numE .u32) w A n p.2.1) (hk : ∀ k ∈ p.2.1, k < 4294967296) (hA : 0 < n → ∀ a, A = some a → ¬ F a.block) (hd : p.2.2.size ≤ 1000000000)
    {e : Int} (hE : S.putE p = e) (he : e ≠ 0) : Calls Tryz.prog 13 #[.pointer (some ⟨b, 0, none⟩), .agg (pgV p (A, n, c)).toArray] w (Ret fun v w' => v = .tuple #[.int .u32 0, .int .i64 e] ∧ StepS w b db F S w') := by
  obtain ⟨Fd, x, hb, hr, nb, nr, m, h⟩ := h
  have hP : S.put p = (S, 0, e) := by unfold Spa.put; rw [hE, if_pos he]
  refine (putS_calls0 h hg.h01 (by have := hg.gen; omega) (by omega) p hs hk hA hd).mono (Ret.mono ?_)
  rintro v w' ⟨rfl, hst⟩
  rw [hP] at hst ⊢
  exact ⟨rfl, hst⟩
theorem sp_markbad (h : SpAt w b db S F) {l : List Nat} (hm : S.mark = some l) : Calls Tryz.prog 15 #[.pointer (some ⟨b, 0, none⟩)] w (Ret fun v w' => v = .int .i64 8 ∧ w' = w) := by
  obtain ⟨Fd, x, hb, hr, nb, nr, m, h⟩ := h
  exact mark_bad h hm
theorem sp_donebad (h : SpAt w b db S F) (hm : S.mark = none) : Calls Tryz.prog 19 #[.pointer (some ⟨b, 0, none⟩)] w (Ret fun v w' => v = .int .i64 8 ∧ w' = w) := by
  obtain ⟨Fd, x, hb, hr, nb, nr, m, h⟩ := h
  exact done_bad h hm
theorem sp_roomC (h : SpAt w b db S F) {k : Int} (hk0 : -9223372036854775808 ≤ k) (hk : k < 9223372036854775808) : Calls Tryz.prog 23 #[.pointer (some ⟨b, 0, none⟩), .int .i64 k] w (Ret fun v w' => v = .int .i64 (S.room k) ∧ Ext w w') := by
  obtain ⟨Fd, x, hb, hr, nb, nr, m, h⟩ := h
  exact roomC_calls h hk0 hk
theorem sp_share2 (h : SpAt w b db S F) (ha : S.asked 2 = false) : Calls Tryz.prog 25 #[.pointer (some ⟨b, 0, none⟩), .int .u32 2] w (Ret fun v w' => v = .int .i64 2 ∧ StepS w b db F S w') := by
  obtain ⟨Fd, x, hb, hr, nb, nr, m, h⟩ := h
  refine (share_calls h (n := 2) (by omega)).mono (Ret.mono ?_)
  rintro v w' ⟨rfl, hS, hO⟩
  have e : S.share 2 = (S, 2) := by unfold Spa.share; rw [if_pos ha]
  rw [e] at hS ⊢
  exact ⟨rfl, F, hS.toAt, fun k hk => .inl hk, hO⟩
def c12 : List Nat := [1, 1, 1, 0, 0, 0, 0, 0, 0, 0, 0, 0]
theorem s0_now : S0.now = c12 ∧ S0.held = c12 ∧ S0.mark = none := by
  have e : fmtC 12 (fmtN 128 12) = c12 := by rw [fmtN0]; decide
  exact ⟨e, e, rfl⟩
/-- Small spaces: how many blocks are free. -/
theorem free12 {S : Spa} (hs : S.sup = fmtS 128 12) : S.freeN = ((List.range 12).filter fun n => decide (2 ≤ n) && (S.now.getD n 0 == 0 && S.held.getD n 0 == 0 && cnt S.mark n == 0)).length := by
  unfold Spa.freeN Spa.freeL Spa.isFree Spa.N
  rw [hs]
  rfl
theorem room12 {S : Spa} (hs : S.sup = fmtS 128 12) (k : Int) : S.room k = if k < 0 ∨ k > 27 then 0 else 110 - 4 * k := by
  have := s0_room k
  unfold Spa.room at this ⊢
  rw [hs]
  exact this
theorem asked12 {S : Spa} (hs : S.sup = fmtS 128 12) (n : Nat) : S.asked n = (decide (2 ≤ n) && (decide (n < 12) && !(decide (n ∈ [2])))) := by
  have hp := s0_pages
  unfold Spa.asked Spa.N
  rw [hs]
  have : (fmtS 128 12).pages = [2] := hp
  rw [this]
  rfl
/-- A page that is put takes the first free block. -/
theorem first12 {S S' : Spa} {p : Page} {n k : Nat} {l : List Nat} (h : PutOk S S' p n) (hl : S.freeL = k :: l) : n = k ∧ S'.freeL = l := by
  have := h.freeL
  rw [hl] at this
  injection this with a b
  exact ⟨a.symm, b.symm⟩
theorem names_calls (w : World) : Calls Tryz.prog 3 #[] w (Ret fun v w' => v = .bool true ∧ Ext w w') := by
  apply calls3
  unfold S3
  obtain ⟨g0, pen0⟩ := s0_great
  obtain ⟨n0, d0, m0⟩ := s0_now
  refine callW_of (lives_calls w) ?_
  rintro _ w1 ⟨rfl, he1⟩
  refine ⟨_, rfl, splitW_f (by rfl) ?_⟩
  refine callW_of (small_calls w1) ?_
  rintro _ w2 ⟨rfl, he2⟩
  refine ⟨(128, 12, ()), rfl, ?_⟩
  have he02 := he1.trans he2
  refine callW_of (madeS_calls w2) ?_
  rintro _ w3 ⟨db, b, F3, rfl, hs3, hF3, he3⟩
  refine ⟨(some ⟨db, 0, none⟩, some ⟨b, 0, none⟩, ()), rfl, ?_⟩
  dsimp only
  have h3 : Spx w2 w3 b db S0 F3 := ⟨hs3, hF3, he3⟩
  refine callW_of (format_nil w3) ?_
  rintro _ w4 ⟨rfl, hw4⟩
  refine ⟨(none, 1, ()), rfl, ?_⟩
  rw [hw4]
  refine callW_of (small_calls w3) ?_
  rintro _ w5 ⟨rfl, he5⟩
  refine ⟨(128, 12, ()), rfl, ?_⟩
  refine callW_of (dnew_calls w5 128 12) ?_
  rintro _ w6 (⟨_, db6, rfl, hd6⟩ | ⟨hg, _⟩)
  rotate_left
  · rw [geo0] at hg; cases hg
  refine ⟨(some ⟨db6, 0, none⟩, 0, ()), rfl, ?_⟩
  have hx6 : Ext w5 w6 := by obtain ⟨_, _, _, hx⟩ := hd6; exact hx
  refine callW_of (sp_open_blank hd6) ?_
  rintro _ w7 ⟨rfl, he7⟩
  refine ⟨(none, 10, ()), rfl, ?_⟩
  refine callW_of (dnew_calls w7 128 1400) ?_
  rintro _ w8 (⟨hg8, db8, rfl, hd8⟩ | ⟨hg, _⟩)
  rotate_left
  · exact absurd hg (by decide)
  refine ⟨(some ⟨db8, 0, none⟩, 0, ()), rfl, ?_⟩
  refine callW_of (at_format hd8 (devG0 hg8) (by show ([] : List (Int × ByteArray)).length ≤ _; simp)) ?_
  have hlong : (formatD (dev0 128 1400)).2 = 3 := by
    unfold formatD
    rw [if_pos (by show chk (fmtS 128 1400) ≠ 0; rw [wide_long]; decide)]
    exact wide_long
  rintro _ w9 (⟨_, rfl, he9⟩ | ⟨hz, _⟩)
  rotate_left
  · rw [hlong] at hz; cases hz
  refine ⟨(none, (formatD (dev0 128 1400)).2, ()), rfl, ?_⟩
  rw [hlong]
  have h9 : Spx w2 w9 b db S0 F3 := (((h3.ext he5).ext hx6).ext he7).ext he9
  have fr0 := s0_freeL
  have hs0 : S0.sup = fmtS 128 12 := rfl
  have hp0 : S0.dev.pen.length ≤ 900000 := by rw [pen0]; simp
  -- what is refused
  show callW _ _ [_, .agg (pgV ((2 : UInt8), [], ByteArray.empty) (none, 0, 0)).toArray] _ _ w9
  refine callW_of (sp_putE h9.sp g0.good hp0 (p := ((2 : UInt8), [], ByteArray.empty)) (Sli.nil w9 none) (by simp) (fun h => absurd h (by omega)) (by decide) (e := 2) (by unfold Spa.putE; rw [if_pos (.inl (by decide))]) (by decide)) ?_
  rintro _ w10 ⟨rfl, hst10⟩
  refine ⟨(0, 2, ()), rfl, ?_⟩
  obtain ⟨F10, h10⟩ := h9.step' hst10
  refine new_i fun r11 w11 hb11 he11 hr11 hz11 => ?_
  have h11 := h10.ext he11
  show callW _ _ [_, .agg (pgV ((3 : UInt8), [2], ByteArray.empty) (some ⟨r11, 0, none⟩, 1, 1)).toArray] _ _ w11
  refine callW_of (sp_putE h11.sp g0.good hp0 (p := ((3 : UInt8), [2], ByteArray.empty)) (Sli.of_blk (E := numE .u32) (xs := [2]) (by exact hb11) rfl (show 1 ≤ 9223372036854775807 by omega)) (by simp) (fun _ a ha hf => by cases ha; have := h10.lt _ hf; dsimp only at this; omega) (by decide) (e := 2) (by unfold Spa.putE; rw [if_pos (.inr (.inr ⟨2, by simp, by rw [asked12 hs0]; decide⟩))]) (by decide)) ?_
  rintro _ w12 ⟨rfl, hst12⟩
  refine ⟨(0, 2, ()), rfl, ?_⟩
  obtain ⟨F12, h12⟩ := h11.step' hst12
  refine new_i fun r13 w13 hb13 he13 hr13 hz13 => ?_
  have h13 := h12.ext he13
  show callW _ _ [_, .agg (pgV ((3 : UInt8), [5], ByteArray.empty) (some ⟨r13, 0, none⟩, 1, 1)).toArray] _ _ w13
  refine callW_of (sp_putE h13.sp g0.good hp0 (p := ((3 : UInt8), [5], ByteArray.empty)) (Sli.of_blk (E := numE .u32) (xs := [5]) (by exact hb13) rfl (show 1 ≤ 9223372036854775807 by omega)) (by simp) (fun _ a ha hf => by cases ha; have := h12.lt _ hf; dsimp only at this; omega) (by decide) (e := 8) (by
    unfold Spa.putE
    rw [if_neg, if_pos ⟨5, by simp, by rw [n0]; decide⟩]
    rintro (e | e | ⟨k, hk, e⟩)
    · exact absurd e (by decide)
    · exact absurd e (by decide)
    · rw [List.mem_singleton.1 hk, asked12 hs0] at e
      exact absurd e (by decide)) (by decide)) ?_
  rintro _ w14 ⟨rfl, hst14⟩
  refine ⟨(0, 8, ()), rfl, ?_⟩
  obtain ⟨F14, h14⟩ := h13.step' hst14
  refine callW_of (times97 w14 111 (by omega)) ?_
  rintro _ w15 ⟨rfl, hw15⟩
  refine ⟨_, rfl, ?_⟩
  rw [hw15]
  show callW _ _ [_, .agg (pgV ((3 : UInt8), [], mkB (timesL [97] 111)) (none, 0, 0)).toArray] _ _ w14
  refine callW_of (sp_putE h14.sp g0.good hp0 (p := ((3 : UInt8), [], mkB (timesL [97] 111))) (Sli.nil w14 none) (by simp) (fun h => absurd h (by omega)) (by show (mkB (timesL [97] 111)).size ≤ _; rw [na]; omega) (e := 3) (by
    unfold Spa.putE
    rw [if_neg, if_neg, if_pos (.inr (by show (((mkB (timesL [97] 111)).size : Nat) : Int) > S0.room 0; rw [na, s0_room]; decide))]
    · rintro ⟨k, hk, _⟩; cases hk
    · rintro (e | e | ⟨k, hk, e⟩)
      · exact absurd e (by decide)
      · exact absurd e (by simp)
      · cases hk) (by decide)) ?_
  rintro _ w16 ⟨rfl, hst16⟩
  refine ⟨(0, 3, ()), rfl, ?_⟩
  obtain ⟨F16, h16⟩ := h14.step' hst16
  -- a
  refine callW_of (times97 w16 110 (by omega)) ?_
  rintro _ w17 ⟨rfl, hw17⟩
  refine ⟨_, rfl, ?_⟩
  rw [hw17]
  show callW _ _ [_, .agg (pgV ((3 : UInt8), [], mkB (timesL [97] 110)) (none, 0, 0)).toArray] _ _ w16
  refine callW_of (sp_put (R := []) (p := ((3 : UInt8), [], mkB (timesL [97] 110))) h16.sp g0 hp0 (Sli.nil w16 none) (fun a ha => by cases ha) (show 3 ≤ (3 : UInt8).toNat by decide) (by rw [s0_room]; show ((0 : Nat) : Int) ≤ _; decide) (by show (mkB (timesL [97] 110)).size ≤ _; rw [na]; omega)) ?_
  rintro _ w18 ⟨Sa, a, e, rfl, hp, hst18⟩
  obtain ⟨rfl, pa, ga, _⟩ := hp.ok (by show (((mkB (timesL [97] 110)).size : Nat) : Int) ≤ S0.room 0; rw [na, s0_room]; decide) (by rw [s0_pages]; unfold Spa.freeN; rw [fr0]; decide)
  refine ⟨((a : Int), 0, ()), rfl, ?_⟩
  obtain ⟨F18, h18⟩ := h16.step' hst18
  obtain ⟨rfl, fra⟩ := first12 pa fr0
  have sa : Sa.sup = fmtS 128 12 := pa.sup
  have pena : Sa.dev.pen.length = 1 := by rw [pa.pen, pen0]; rfl
  have na' : Sa.now = [1, 1, 1, 1, 0, 0, 0, 0, 0, 0, 0, 0] := by rw [pa.now, n0]; decide
  -- b
  refine new_i fun r19 w19 hb19 he19 hr19 hz19 => ?_
  have h19 := h18.ext he19
  show callW _ _ [_, .agg (pgV ((3 : UInt8), [3], ByteArray.empty) (some ⟨r19, 0, none⟩, 1, 1)).toArray] _ _ w19
  refine callW_of (sp_put (R := []) (p := ((3 : UInt8), [3], ByteArray.empty)) h19.sp ga (by omega) (Sli.of_blk (E := numE .u32) (xs := [3]) (by exact hb19) rfl (show 1 ≤ 9223372036854775807 by omega)) (fun a ha hf => by cases ha; have := h18.lt _ hf; dsimp only at this; omega) (by decide) (by rw [room12 sa]; decide) (by decide)) ?_
  rintro _ w20 ⟨Sb, n4, e, rfl, hp, hst20⟩
  obtain ⟨rfl, pb, gb, _⟩ := hp.ok (by rw [room12 sa]; decide) (by rw [sa]; unfold Spa.freeN; rw [fra]; show (fmtP (fmtN 128 12)).length < _; rw [fmtN0]; decide)
  refine ⟨((n4 : Int), 0, ()), rfl, ?_⟩
  obtain ⟨F20, h20⟩ := h19.step' hst20
  obtain ⟨rfl, frb⟩ := first12 pb fra
  have sb : Sb.sup = fmtS 128 12 := pb.sup.trans sa
  have penb : Sb.dev.pen.length = 2 := by rw [pb.pen, pena]
  have nb' : Sb.now = [1, 1, 1, 1, 1, 0, 0, 0, 0, 0, 0, 0] := by rw [pb.now, na']; decide
  have mb : Sb.mark = none := by rw [pb.mark, pa.mark, m0]
  have db' : Sb.held = c12 := by rw [pb.held, pa.held, d0]
  refine callW_of (sp_mark h20.sp mb) ?_
  rintro _ w21 ⟨rfl, hst21⟩
  refine ⟨_, rfl, ?_⟩
  obtain ⟨F21, h21⟩ := h20.step' hst21
  have gm := great_mark gb
  refine callW_of (sp_markbad h21.sp (l := Sb.now) rfl) ?_
  rintro _ w22 ⟨rfl, hw22⟩
  refine ⟨_, rfl, ?_⟩
  rw [hw22]
  -- c
  have frm : Spa.freeN { Sb with mark := some Sb.now } = 7 := by
    rw [free12 (S := { Sb with mark := some Sb.now }) sb]
    show ((List.range 12).filter fun n => decide (2 ≤ n) && (Sb.now.getD n 0 == 0 && Sb.held.getD n 0 == 0 && cnt (some Sb.now) n == 0)).length = 7
    rw [nb', db']
    decide
  have pgs1 : ∀ {T : Spa}, T.sup = fmtS 128 12 → T.sup.pages.length = 1 := fun h => by rw [h]; show (fmtP (fmtN 128 12)).length = 1; rw [fmtN0]; rfl
  have flm : Spa.freeL { Sb with mark := some Sb.now } = [5, 6, 7, 8, 9, 10, 11] := by
    unfold Spa.freeL Spa.isFree Spa.N
    show ((List.range Sb.sup.blocks.toNat).filter fun n => decide (2 ≤ n) && (Sb.now.getD n 0 == 0 && Sb.held.getD n 0 == 0 && cnt (some Sb.now) n == 0)) = _
    rw [sb, nb', db']
    decide
  show callW _ _ [_, .agg (pgV ((5 : UInt8), [], ByteArray.empty) (none, 0, 0)).toArray] _ _ w21
  refine callW_of (sp_put (R := [4]) (p := ((5 : UInt8), [], ByteArray.empty)) h21.sp gm (by show Sb.dev.pen.length ≤ _; omega) (Sli.nil w21 none) (fun a ha => by cases ha) (by decide) (by rw [room12 (S := { Sb with mark := some Sb.now }) sb]; decide) (by decide)) ?_
  rintro _ w23 ⟨Sc, n5, e, rfl, hp, hst23⟩
  obtain ⟨rfl, pc, gc, _⟩ := hp.ok (by rw [room12 (S := { Sb with mark := some Sb.now }) sb]; decide) (by rw [frm, pgs1 (T := { Sb with mark := some Sb.now }) sb]; omega)
  refine ⟨((n5 : Int), 0, ()), rfl, ?_⟩
  obtain ⟨F23, h23⟩ := h21.step' hst23
  obtain ⟨rfl, frc⟩ := first12 pc flm
  have sc : Sc.sup = fmtS 128 12 := pc.sup.trans sb
  have nc' : Sc.now = [1, 1, 1, 1, 1, 1, 0, 0, 0, 0, 0, 0] := by
    rw [pc.now]
    show Sb.now.set 5 1 = _
    rw [nb']; decide
  have mc : Sc.mark = some [1, 1, 1, 1, 1, 0, 0, 0, 0, 0, 0, 0] := by
    rw [pc.mark]
    show some Sb.now = _
    rw [nb']
  have dc : Sc.held = c12 := by rw [pc.held]; exact db'
  -- b is dropped
  refine callW_of (sp_drop h23.sp (R := [5]) (gc.perm (List.Perm.swap 4 5 []))) ?_
  rintro _ w24 ⟨rfl, c', gd, hst24, hD, _⟩
  refine ⟨_, rfl, ?_⟩
  obtain ⟨F24, h24⟩ := h23.step' hst24
  have hc' : c' = [1, 1, 1, 0, 0, 1, 0, 0, 0, 0, 0, 0] := by
    have p4 : kidsP Sc.page 4 = [3] := by
      unfold kidsP
      rw [pc.other 4 (by decide) (by show 4 < Sb.N; unfold Spa.N; rw [sb]; decide)]
      show (Sb.page 4).1.2.1 = _
      rw [pb.page]
    have p3 : kidsP Sc.page 3 = [] := by
      unfold kidsP
      rw [pc.other 3 (by decide) (by show 3 < Sb.N; unfold Spa.N; rw [sb]; decide)]
      show (Sb.page 3).1.2.1 = _
      rw [pb.other 3 (by decide) (by show 3 < Sa.N; unfold Spa.N; rw [sa]; decide), pa.page]
    rw [nc'] at hD
    rcases hD.inv with ⟨a1, _⟩ | ⟨a1, _⟩ | ⟨_, _, _, a1⟩ | ⟨_, _, _, a1, _⟩ | ⟨_, _, _, a1⟩
    · exact absurd (by decide) a1
    · exact absurd (by decide) a1
    · cases a1
    · exact absurd rfl a1
    rw [p4, show subL [1, 1, 1, 1, 1, 1, 0, 0, 0, 0, 0, 0] 4 = [1, 1, 1, 1, 0, 1, 0, 0, 0, 0, 0, 0] by decide] at a1
    rcases Drp.inv (n := 3) (st := []) a1 with ⟨a1, _⟩ | ⟨a1, _⟩ | ⟨_, _, _, a1⟩ | ⟨_, _, _, a1, _⟩ | ⟨_, _, _, a1⟩
    · exact absurd (by decide) a1
    · exact absurd (by decide) a1
    · cases a1
    · exact absurd rfl a1
    rw [p3, show subL [1, 1, 1, 1, 0, 1, 0, 0, 0, 0, 0, 0] 3 = [1, 1, 1, 0, 0, 1, 0, 0, 0, 0, 0, 0] by decide] at a1
    cases a1
    rfl
  refine callW_of (sp_free h24.sp) ?_
  rintro _ w25 ⟨rfl, he25⟩
  refine ⟨_, rfl, ?_⟩
  have h25 := h24.ext he25
  have fr25 : Spa.freeN { Sc with now := c' } = 6 := by
    rw [free12 (S := { Sc with now := c' }) sc]
    show ((List.range 12).filter fun n => decide (2 ≤ n) && (c'.getD n 0 == 0 && Sc.held.getD n 0 == 0 && cnt Sc.mark n == 0)).length = 6
    rw [hc', dc, mc]
    decide
  rw [fr25]
  refine callW_of (sp_back h25.sp (l := [1, 1, 1, 1, 1, 0, 0, 0, 0, 0, 0, 0]) mc) ?_
  rintro _ w26 ⟨rfl, hst26⟩
  refine ⟨_, rfl, ?_⟩
  obtain ⟨F26, h26⟩ := h25.step' hst26
  have gk : Great { Sc with now := [1, 1, 1, 1, 1, 0, 0, 0, 0, 0, 0, 0], mark := none } [4] [] none := great_back (S := { Sc with now := c' }) gd mc
  have penk : Sc.dev.pen.length = 3 := by rw [pc.pen]; show Sb.dev.pen.length + 1 = 3; omega
  generalize hT : ({ Sc with now := [1, 1, 1, 1, 1, 0, 0, 0, 0, 0, 0, 0], mark := none } : Spa) = T at gk
  have h26 : Spx w2 w26 b db T F26 := by rw [← hT]; exact h26
  have sT : T.sup = fmtS 128 12 := by rw [← hT]; exact sc
  have nT : T.now = [1, 1, 1, 1, 1, 0, 0, 0, 0, 0, 0, 0] := by rw [← hT]
  have dT : T.held = c12 := by rw [← hT]; exact dc
  have mT : T.mark = none := by rw [← hT]
  have pT : T.dev.pen.length = 3 := by rw [← hT]; exact penk
  refine callW_of (sp_donebad h26.sp mT) ?_
  rintro _ w27 ⟨rfl, hw27⟩
  refine ⟨_, rfl, ?_⟩
  rw [hw27]
  refine joinW_s (fun y w' => y = (true, ()) ∧ w' = w26) ?_ (fun J28 hJ28 => ?_)
  rotate_left
  · exact splitW_t (by rfl) (splitW_t (by rfl) (splitW_t (by rfl) (splitW_t (by rfl) (splitW_t (by rfl) (splitW_t (by rfl) (splitW_t (by rfl) (splitW_t (by rfl) (splitW_t (by rfl) (splitW_t (by rfl) (splitW_t (by rfl) (splitW_t (by rfl) (hJ28 _ _ ⟨rfl, rfl⟩))))))))))))
  rintro _ w28 ⟨rfl, hw28⟩
  rw [hw28]
  have frT : T.freeN = 7 := by
    rw [free12 sT, nT, dT, mT]
    decide
  refine joinW_s (fun y w' => y = (true, ()) ∧ Ext w26 w') ?_ (fun J30 hJ30 => ?_)
  rotate_left
  · refine splitW_t (by rfl) (splitW_t (by rfl) (splitW_t (by rfl) (splitW_t (by rfl) ?_)))
    refine callW_of (sp_free h26.sp) ?_
    rintro _ w29 ⟨rfl, he29⟩
    refine ⟨_, rfl, ?_⟩
    rw [frT]
    refine splitW_t (by rfl) ?_
    have h29 := h26.ext he29
    refine callW_of (sp_count h29.sp (n := 3) (by omega)) ?_
    rintro _ w30 ⟨rfl, hw30⟩
    refine ⟨_, rfl, ?_⟩
    rw [hw30, nT]
    refine splitW_t (by rfl) ?_
    refine callW_of (sp_count h29.sp (n := 4) (by omega)) ?_
    rintro _ w31 ⟨rfl, hw31⟩
    refine ⟨_, rfl, ?_⟩
    rw [hw31, nT]
    refine splitW_t (by rfl) ?_
    refine callW_of (sp_count h29.sp (n := 5) (by omega)) ?_
    rintro _ w32 ⟨rfl, hw32⟩
    refine ⟨_, rfl, ?_⟩
    rw [hw32, nT]
    refine splitW_t (by rfl) ?_
    refine callW_of (sp_count h29.sp (n := 2) (by omega)) ?_
    rintro _ w33 ⟨rfl, hw33⟩
    refine ⟨_, rfl, ?_⟩
    rw [hw33, nT]
    exact hJ30 _ _ ⟨rfl, he29⟩
  rintro _ w34 ⟨rfl, he34⟩
  have h34 := h26.ext he34
  -- till it is full
  refine loopW_i (fun y w' => ∃ (k : Nat) (U : Spa) (FU : Nat → Prop) (R : List Nat), k ≤ 20 ∧ y = (((k - 6 : Nat) : Int), (k : Int), ()) ∧ Spx w2 w' b db U FU ∧ Great U R [] none ∧ U.sup = fmtS 128 12 ∧ U.held = c12 ∧ U.mark = none ∧ U.freeN = max 1 (7 - k) ∧ U.dev.pen.length ≤ 3 + k) (fun y => (20 - y.2.1).toNat)
    ⟨0, T, F26, [4], by omega, rfl, h34, gk, sT, dT, mT, by rw [frT]; rfl, by omega⟩ ?_
  rintro _ w35 ⟨k, U, FU, R, hk, rfl, hU, gU, sU, dU, mU, fU, pU⟩
  dsimp only
  by_cases hlt : k < 20
  · refine splitW_t (decide_eq_true (by omega)) ?_
    have wk : IntKind.wrap .i64 ((k : Int) + 1) = ((k + 1 : Nat) : Int) := by rw [wrap_i64 (by omega) (by omega)]; rfl
    have hpg := pgs1 sU
    show callW _ _ [_, .agg (pgV ((5 : UInt8), [], ByteArray.empty) (none, 0, 0)).toArray] _ _ w35
    refine callW_of (sp_put (R := R) (p := ((5 : UInt8), [], ByteArray.empty)) hU.sp gU (by omega) (Sli.nil w35 none) (fun a ha => by cases ha) (by decide) (by rw [room12 sU]; decide) (by decide)) ?_
    rintro _ w36 ⟨U', m, e, rfl, hp, hst36⟩
    refine ⟨((m : Int), e, ()), rfl, ?_⟩
    obtain ⟨F36, h36⟩ := hU.step' hst36
    rw [wk]
    rcases hp with ⟨_, _, _, hlg⟩ | ⟨rfl, _, rfl, hfull⟩ | ⟨rfl, hP, hG, _, hlt1⟩
    · exfalso
      have hlg : U.room 0 < 0 := hlg
      rw [room12 sU] at hlg
      exact absurd hlg (by decide)
    · refine splitW_t (by rfl) ⟨⟨k + 1, U', F36, R, by omega, ?_, h36, gU, sU, dU, mU, by omega, by omega⟩, by omega⟩
      rw [wrap_i64 (by omega) (by omega)]
      have : ((k - 6 : Nat) : Int) + 1 = ((k + 1 - 6 : Nat) : Int) := by omega
      rw [this]
    · have hfr := congrArg List.length hP.freeL
      rw [List.length_cons] at hfr
      have hfr : U.freeN = U'.freeN + 1 := hfr
      have hgt : 1 < U.freeN := by omega
      refine splitW_f (by rfl) ⟨⟨k + 1, U', F36, m :: R, by omega, ?_, h36, hG, hP.sup.trans sU, hP.held.trans dU, hP.mark.trans mU, by omega, by have := hP.pen; omega⟩, by omega⟩
      have : ((k - 6 : Nat) : Int) = ((k + 1 - 6 : Nat) : Int) := by omega
      rw [this]
  obtain rfl : k = 20 := by omega
  refine splitW_f (by rfl) ?_
  refine callW_of (sp_abort hU.sp) ?_
  rintro _ w36 ⟨rfl, hst36⟩
  refine ⟨_, rfl, ?_⟩
  obtain ⟨F36, h36⟩ := hU.step' hst36
  have gV := great_abort gU
  have sV' : Spa.sup { U with now := U.held, mark := none } = fmtS 128 12 := sU
  have nV : Spa.now { U with now := U.held, mark := none } = c12 := dU
  have dV : Spa.held { U with now := U.held, mark := none } = c12 := dU
  have mV : Spa.mark { U with now := U.held, mark := none } = none := rfl
  have pV : (Spa.dev { U with now := U.held, mark := none }).pen.length ≤ 23 := pU
  generalize ({ U with now := U.held, mark := none } : Spa) = V at *
  have g3 : V.get 3 = (page0, 8) := by
    rw [get_none (by rw [nV]; rfl)]
    unfold noneE
    rw [asked12 sV', if_neg (by decide)]
  refine callW_of (sp_get h36.sp (n := 3) (by omega)) ?_
  rintro _ w37 ⟨y, rfl, hoy, he37⟩
  rw [g3] at hoy ⊢
  refine ⟨(pgT page0 y, 8, ()), rfl, ?_⟩
  refine new_i fun r42 w38 hb38 he38 hr38 _ => ?_
  refine refill (vs := pgV page0 y) hb38 (by rfl) (pgV_one _ y) (by rfl) fun w39 hb39 hx39 hk39 hz39 => ?_
  have h39 : Spx w2 w39 b db V F36 := h36.ext (hx39 w36 (he37.trans he38) (by have := he37.size; omega))
  refine joinW_s (fun y w' => y = (true, ()) ∧ Ext w w') ?_ (fun J43 hJ43 => ?_)
  · rintro _ w' ⟨rfl, hx⟩
    exact ⟨rfl, hx⟩
  refine splitW_t (by rfl) (splitW_t (by rfl) (splitW_t (by rfl) (splitW_t (by rfl) (splitW_t (by rfl) ?_))))
  have frV : V.freeN = 9 := by
    rw [free12 sV', nV, dV, mV]
    decide
  refine callW_of (sp_free h39.sp) ?_
  rintro _ w40 ⟨rfl, he40⟩
  refine ⟨_, rfl, ?_⟩
  rw [frV]
  refine splitW_t (by rfl) ?_
  have h40 := h39.ext he40
  refine callW_of (sp_roomC h40.sp (k := 0) (by omega) (by omega)) ?_
  rintro _ w41 ⟨rfl, he41⟩
  refine ⟨_, rfl, ?_⟩
  rw [room12 sV']
  refine splitW_t (by rfl) ?_
  have h41 := h40.ext he41
  refine callW_of (sp_roomC h41.sp (k := 27) (by omega) (by omega)) ?_
  rintro _ w42 ⟨rfl, he42⟩
  refine ⟨_, rfl, ?_⟩
  rw [room12 sV']
  refine splitW_t (by rfl) ?_
  have h42 := h41.ext he42
  refine callW_of (sp_roomC h42.sp (k := 28) (by omega) (by omega)) ?_
  rintro _ w43 ⟨rfl, he43⟩
  refine ⟨_, rfl, ?_⟩
  rw [room12 sV']
  refine splitW_t (by rfl) ?_
  have h43 := h42.ext he43
  refine callW_of (sp_roomC h43.sp (k := -1) (by omega) (by omega)) ?_
  rintro _ w44 ⟨rfl, he44⟩
  refine ⟨_, rfl, ?_⟩
  rw [room12 sV']
  refine splitW_t (by rfl) ?_
  have h44 := h43.ext he44
  refine callW_of (freenil_calls w44) ?_
  rintro _ w45 ⟨rfl, he45⟩
  refine ⟨_, rfl, splitW_t (by rfl) ?_⟩
  have h45 := h44.ext he45
  refine callW_of (commitnil_calls w45) ?_
  rintro _ w46 ⟨rfl, hw46⟩
  refine ⟨_, rfl, splitW_t (by rfl) ?_⟩
  rw [hw46]
  refine callW_of (dropnil_calls w45) ?_
  rintro _ w47 ⟨rfl, hw47⟩
  refine ⟨_, rfl, splitW_t (by rfl) ?_⟩
  rw [hw47]
  have e99 : noneE V 99 = 2 := by unfold noneE; rw [asked12 sV', if_pos (by decide)]
  have e5 : noneE V 5 = 8 := by unfold noneE; rw [asked12 sV', if_neg (by decide)]
  refine callW_of (sp_commit0 h45.sp gV (n := 99) (by omega) (by omega) (by rw [nV]; rfl) (by omega)) ?_
  rintro _ w48 ⟨rfl, hst48⟩
  refine ⟨_, rfl, ?_⟩
  rw [e99]
  refine splitW_t (by rfl) ?_
  obtain ⟨F48, h48⟩ := h45.step' hst48
  refine callW_of (sp_commit0 h48.sp gV (n := 5) (by omega) (by omega) (by rw [nV]; rfl) (by omega)) ?_
  rintro _ w49 ⟨rfl, hst49⟩
  refine ⟨_, rfl, ?_⟩
  rw [e5]
  refine splitW_t (by rfl) ?_
  obtain ⟨F49, h49⟩ := h48.step' hst49
  refine callW_of (sp_share2 h49.sp (by rw [asked12 sV']; decide)) ?_
  rintro _ w50 ⟨rfl, hst50⟩
  refine ⟨_, rfl, splitW_t (by rfl) ?_⟩
  obtain ⟨F50, h50⟩ := h49.step' hst50
  refine callW_of (sp_root h50.sp) ?_
  rintro _ w51 ⟨rfl, hw51⟩
  refine ⟨_, rfl, ?_⟩
  rw [hw51, sV']
  refine splitW_t (by rfl) ?_
  refine callW_of (gen_at h50.sp) ?_
  rintro _ w52 ⟨rfl, hw52⟩
  refine ⟨_, rfl, ?_⟩
  rw [hw52, sV']
  exact hJ43 _ _ ⟨rfl, he02.trans h50.x⟩
end Go.Proofs.YtjdmggaeagnolaaGreat.V
/- Geometries and words that came in, opened. -/
set_option linter.unusedVariables false
set_option linter.unusedSimpArgs false
set_option maxRecDepth 100000
namespace Go.Proofs.YtjdmggaeagnolaaGreat.V
open Go Go.ChangeShapes Go.WideShapes Go.ChangeAt Go.RowKit Go.Deep Go.Proofs
section
variable {H : Type} {enc : TypeId × Value → H} {w : World} {base : Nat} {spare : Nat → Bool} {held : Bool}
theorem open_geo {v : Value} {d : DataW H} {ps : List MemPlace} {r : Reach} {b0 : Nat} (hv : Value.okWide Tryz.prog w r b0 28 v) (h : DataW.Trod enc Tryz.prog w base spare held 28 v d ps) :
    ∃ s b : Int, v = .agg #[.int .i64 s, .int .i64 b] ∧ (-9223372036854775808 ≤ s ∧ s < 9223372036854775808) ∧ (-9223372036854775808 ≤ b ∧ b < 9223372036854775808) := by
  obtain ⟨cs, rfl, hsz⟩ := okWide_struct (show Tryz.prog.underlying 28 = some (.struct (fieldsOf Tryz.prog 28)) by kernel_rfl) hv
  obtain ⟨fuel, hf⟩ := h
  have hf' : DataW.trod enc Tryz.prog w base spare held fuel 28 cs.toList = some (d, ps) := hf
  obtain ⟨hl, m, hf2⟩ := dec_fields (ts := [3, 3]) (by kernel_rfl) (by kernel_rfl) (by kernel_rfl) (by kernel_rfl) hf'
  obtain ⟨v0, y0, e0, h0⟩ := hf2 0 _ rfl
  obtain ⟨v1, y1, e1, h1⟩ := hf2 1 _ rfl
  obtain ⟨z0, hz0, hw0⟩ := dec_int (k := .i64) (by kernel_rfl) h0
  obtain ⟨z1, hz1, hw1⟩ := dec_int (k := .i64) (by kernel_rfl) h1
  cases hz0; cases hz1
  refine ⟨z0, z1, ?_, nat_i64 hw0, nat_i64 hw1⟩
  congr 1
  apply Array.toList_inj.1
  match hcs : cs.toList, hl with
  | [a, b], _ =>
    rw [hcs] at e0 e1
    simp only [List.getElem?_cons_zero, List.getElem?_cons_succ, Option.some.injEq] at e0 e1
    rw [e0, e1]
end
end Go.Proofs.YtjdmggaeagnolaaGreat.V
/- Supers that came in, opened. -/
set_option linter.unusedVariables false
set_option linter.unusedSimpArgs false
set_option maxRecDepth 100000
namespace Go.Proofs.YtjdmggaeagnolaaGreat.V
open Go Go.ChangeShapes Go.WideShapes Go.ChangeAt Go.RowKit Go.Deep Go.Proofs
section
variable {H : Type} {enc : TypeId × Value → H} {P : Program} {w : World} {base : Nat} {spare : Nat → Bool} {held : Bool} {α : Type}
/-- A slice of rows in a field. -/
theorem open_rowsC {E : Enc α} {Q : α → Prop} {t e : TypeId} {fuel : Nat} {cs : List Value} {x : DataW H × List MemPlace} (ht : P.underlying t = some (.slice e)) (hC : P.cellsOf e = E.k)
    (hdec : ∀ (n : Nat) (cs' : List Value) (x' : DataW H × List MemPlace), DataW.trod enc P w base (fun _ => true) held n e cs' = some x' → ∃ x : α, E.f x = cs' ∧ Q x)
    (hf : DataW.trod enc P w base (fun _ => true) held fuel t cs = some x) : ∃ A n c xs, cs = [.slice A n c] ∧ Sli E w A n xs ∧ n ≤ c ∧ ∀ x ∈ xs, Q x := by
  rcases open_slice ht hf with ⟨hcs, _⟩ | ⟨a, len, cap, m, k, D, Pl, hcs, hb, hl, hm, hmm, hx, hi⟩
  · exact ⟨_, _, _, [], hcs, Sli.nil _ _, by omega, fun x hx => by cases hx⟩
  · have hmc : m = cap := by simpa using hmm
    have hall : ∀ i, i < len → ∃ x : α, (∀ (j : Nat) (u : Value), (E.f x)[j]? = some u → w.cell? ((a.add (i * E.k)).add j) = some u) ∧ Q x := by
      intro i hin
      obtain ⟨cs', hc, ht'⟩ := hi i (by omega)
      obtain ⟨x, hxe, hq⟩ := hdec k cs' _ ht'
      obtain ⟨_, hcl, hat⟩ := World.cells?_some hc
      rw [hC] at hcl hat
      refine ⟨x, fun j u hj => ?_, hq⟩
      have hjk : j < E.k := by have := (List.getElem?_eq_some_iff.1 hj).1; rw [E.len] at this; exact this
      rw [hat j hjk, ← hxe]
      exact hj
    obtain ⟨xs, hxl, hxs⟩ := exists_list len hall
    refine ⟨_, _, _, xs, hcs, ⟨hxl, by simp only [maxLen] at hm; omega, fun hn => ⟨a, rfl, ?_, ?_⟩⟩, hl, fun x hx => ?_⟩
    · have h0 := hxs 0 xs[0] (List.getElem?_eq_getElem (by omega))
      have h1 := h0.1 0 ((E.f xs[0])[0]'(by rw [E.len]; exact E.pos)) (List.getElem?_eq_getElem _)
      rw [show a.add (0 * E.k) = a by rw [Nat.zero_mul]; simp [Addr.add], show a.add 0 = a by simp [Addr.add]] at h1
      exact spot_of_cell h1
    · intro j u hj
      have hjl : j < (E.flat xs).length := (List.getElem?_eq_some_iff.1 hj).1
      rw [E.flat_length] at hjl
      have hdm := Nat.div_add_mod j E.k
      have hmod := Nat.mod_lt j E.pos
      have hdiv : j / E.k < xs.length := Nat.div_lt_of_lt_mul (by rw [Nat.mul_comm]; exact hjl)
      rw [← hdm, Nat.mul_comm, E.flat_get _ _ _ hmod, List.getElem?_eq_getElem hdiv] at hj
      have := (hxs _ _ (List.getElem?_eq_getElem hdiv)).1 (j % E.k) u hj
      rw [Go.Deep.add_add] at this
      rw [← hdm, Nat.mul_comm]
      exact this
    · obtain ⟨i, hi', rfl⟩ := List.mem_iff_getElem.1 hx
      exact (hxs i _ (List.getElem?_eq_getElem hi')).2
/-- A field of a struct. -/
theorem dec_field {t : TypeId} {n : Nat} {cs : List Value} {x : DataW H × List MemPlace} (i o k : Nat) (u : TypeId) (ht : P.underlying t = some (.struct (fieldsOf P t)))
    (hf : ((fieldsOf P t)[i]?.map fun f => (f.type, f.offset, P.cellsOf f.type)) = some (u, o, k)) (h : DataW.trod enc P w base spare held n t cs = some x) :
    cs.length = P.cellsOf t ∧ ∃ (m : Nat) (y : DataW H × List MemPlace), DataW.trod enc P w base spare held m u ((cs.drop o).take k) = some y := by
  obtain ⟨xs, m, _, hx, hcl, hlen, hg⟩ := DataW.trod_struct ht h
  obtain ⟨f, hf1, hf2⟩ := Option.map_eq_some_iff.1 hf
  injection hf2 with e1 e2
  injection e2 with e2 e3
  subst e1 e2 e3
  have hi : i < xs.length := by rw [hlen]; exact (Array.getElem?_eq_some_iff.1 hf1).1
  exact ⟨hcl, m, xs[i], by rw [hg i f hf1, List.getElem?_eq_getElem hi]⟩
end
section
variable {H : Type} {enc : TypeId × Value → H} {w : World} {base : Nat} {held : Bool}
end
end Go.Proofs.YtjdmggaeagnolaaGreat.V
/- Pages that came in, opened. -/
set_option linter.unusedVariables false
set_option linter.unusedSimpArgs false
set_option maxRecDepth 100000
namespace Go.Proofs.YtjdmggaeagnolaaGreat.V
open Go Go.ChangeShapes Go.WideShapes Go.ChangeAt Go.RowKit Go.Deep Go.Proofs
section
variable {H : Type} {enc : TypeId × Value → H} {w : World} {base : Nat} {held : Bool}
theorem open_page {v : Value} {d : DataW H} {ps : List MemPlace} {r : Reach} {b0 : Nat} (hv : Value.okWide Tryz.prog w r b0 40 v) (h : DataW.Trod enc Tryz.prog w base (fun _ => true) held 40 v d ps) :
    ∃ (p : Page) (x : SLC), v = .agg (pgV p x).toArray ∧ Sli (numE .u32) w x.1 x.2.1 p.2.1 ∧ x.2.1 ≤ x.2.2 ∧ (∀ k ∈ p.2.1, k < 4294967296) ∧ p.2.2.size ≤ 9223372036854775807 := by
  obtain ⟨cs, rfl, hsz⟩ := okWide_struct (show Tryz.prog.underlying 40 = some (.struct (fieldsOf Tryz.prog 40)) by kernel_rfl) hv
  obtain ⟨fuel, hf⟩ := h
  have hf' : DataW.trod enc Tryz.prog w base (fun _ => true) held fuel 40 cs.toList = some (d, ps) := hf
  obtain ⟨hl, m0, y0, h0⟩ := dec_field 0 0 1 5 (by kernel_rfl) (by kernel_rfl) hf'
  obtain ⟨_, m1, y1, h1⟩ := dec_field 1 1 1 38 (by kernel_rfl) (by kernel_rfl) hf'
  obtain ⟨_, m2, y2, h2⟩ := dec_field 2 2 1 9 (by kernel_rfl) (by kernel_rfl) hf'
  have hl3 : cs.toList.length = 3 := hl.trans (by kernel_rfl)
  match hcs : cs.toList, hl3 with
  | [a, b, c], _ =>
    rw [hcs] at h0 h1 h2
    obtain ⟨z0, hz0, hw0⟩ := dec_int (k := .u8) (by kernel_rfl) h0
    obtain ⟨A, n, cc, xs, hz1, hsl, hnc, hq⟩ := open_rowsC (e := 35) (E := numE .u32) (Q := fun z => z < 4294967296) (by kernel_rfl) (by kernel_rfl) (fun n cs x h => dec_u32E (by kernel_rfl) h) h1
    obtain ⟨s, hs, hsl2⟩ := dec_string (by kernel_rfl) h2
    cases hz0
    cases hz1
    cases hs
    obtain ⟨u, rfl⟩ := n_u8 hw0
    refine ⟨(u, xs, s), (A, n, cc), ?_, hsl, hnc, hq, by simpa [maxLen] using hsl2⟩
    congr 1
    apply Array.toList_inj.1
    rw [hcs]
    rfl
end
end Go.Proofs.YtjdmggaeagnolaaGreat.V
