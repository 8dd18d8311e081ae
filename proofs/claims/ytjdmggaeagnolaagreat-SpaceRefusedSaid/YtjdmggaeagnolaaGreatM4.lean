/- Texts of mine, merged (wip/tool/mergep.py): KSpa2, KSpa3, KSpa4, KSpa5, KSpa6, Graph, KSpa7, KCounts4, KSpa8, KSpa9, HR3, KWalk, KWalk2, KWalk3, Good, Good2, Good3, KAtS, Taken, KCommit, KOpen, Great. -/
import Derived.Test.YtjdmggaeagnolaaGreatM3
/- Contracts of the package space: what may be asked for, Room, what is free. -/
set_option linter.unusedVariables false
set_option linter.unusedSimpArgs false
namespace Go.Proofs.YtjdmggaeagnolaaGreat.V
open Go Go.Proofs Go.RowKit Crc
variable {w w' : World} {b db : Nat} {S : Spa} {F Fd : Nat → Prop} {x : SLC} {hb hr nb nr : Nat} {m : MkL}
structure SpDims (S : Spa) : Prop where
  geo : geoOK S.sup.size S.sup.blocks = true
  room : roomOf S.sup.size = S.sup.size - 16
  size : 128 ≤ S.sup.size ∧ S.sup.size ≤ 4096
  blocks : S.sup.blocks = (S.N : Int)
  n : 8 ≤ S.N ∧ S.N ≤ 4096
theorem SpM.dims (h : SpM w b db S F Fd x hb hr nb nr m) : SpDims S := by
  have hg := h.dev.ok.geo
  rw [← h.ok.size, ← h.ok.blocks] at hg
  obtain ⟨g1, g2, g3, g4, g5⟩ := geo_room hg
  have : S.sup.blocks = (S.N : Int) := by unfold Spa.N; omega
  exact ⟨hg, g1, ⟨g2, g3⟩, this, by omega⟩
theorem cnt_lt (h : SpM w b db S F Fd x hb hr nb nr m) (n : Nat) : S.now.getD n 0 < 65536 ∧ S.held.getD n 0 < 65536 ∧ cnt S.mark n < 65536 := by
  obtain ⟨q1, c1⟩ := h.heldC
  obtain ⟨q2, c2⟩ := h.nowC
  refine ⟨c2.getD_lt n, c1.getD_lt n, ?_⟩
  have hm := h.markC
  cases hS : S.mark with
  | none => simp [cnt]
  | some l =>
    rw [hS] at hm
    cases m with
    | none => exact hm.elim
    | some a =>
      obtain ⟨q, hm⟩ := hm
      exact hm.getD_lt n
theorem asked_calls (h : SpM w b db S F Fd x hb hr nb nr m) {n : Nat} (hn : n < 4294967296) :
    Calls Tryz.prog 54 #[.pointer (some ⟨b, 0, none⟩), .int .u32 (n : Int)] w (Ret fun v w' => v = .bool (S.asked n) ∧ w' = w) := by
  obtain ⟨t, hbx⟩ := h.box
  have hd := h.dims
  have hb2 := hd.blocks
  have hn2 := hd.n
  apply calls54
  unfold S54 Spa.asked
  refine splitW_i (fun hz => ?_) (fun hz => ?_)
  · have hz := of_decide_eq_true hz
    refine ptr_i (boxE 3 S.sup.blocks hbx (by rfl) (by rfl) ?_)
    have eb : IntKind.wrap .u64 S.sup.blocks = (S.N : Int) := by rw [hb2, wrap_u64_nat (by omega)]
    rw [wrap_u64_nat (by omega), eb]
    refine splitW_i (fun hq => ?_) (fun hq => ?_)
    · have hq := of_decide_eq_true hq
      refine ptr_i (boxE (l := .slc) 5 x hbx (by rfl) (by rfl) ?_)
      refine callW_of (contains_calls (c := x.2.2) h.pgs.sl) ?_
      rintro _ w1 ⟨rfl, rfl⟩
      refine ⟨_, rfl, ?_, rfl⟩
      rw [decide_eq_true (show 2 ≤ n by omega), decide_eq_true (show n < S.N by omega)]
      rfl
    · have hq := of_decide_eq_false hq
      refine ⟨?_, rfl⟩
      rw [decide_eq_false (show ¬ n < S.N by omega)]
      simp
  · have hz := of_decide_eq_false hz
    refine ⟨?_, rfl⟩
    rw [decide_eq_false (show ¬ 2 ≤ n by omega)]
    rfl
theorem roomC_calls (h : SpM w b db S F Fd x hb hr nb nr m) {k : Int} (hk0 : -9223372036854775808 ≤ k) (hk : k < 9223372036854775808) :
    Calls Tryz.prog 23 #[.pointer (some ⟨b, 0, none⟩), .int .i64 k] w (Ret fun v w' => v = .int .i64 (S.room k) ∧ Ext w w') := by
  obtain ⟨t, hbx⟩ := h.box
  have hd := h.dims
  have h1 := hd.room
  have h2 := hd.size
  apply calls23
  unfold S23 Spa.room
  refine splitW_f (by rfl) (ptr_i (boxE 2 S.sup.size hbx (by rfl) (by rfl) ?_))
  refine callW_of (room_calls w S.sup.size) ?_
  rintro _ w1 ⟨rfl, he⟩
  refine ⟨_, rfl, ?_⟩
  have e1 : IntKind.wrap .i64 (roomOf S.sup.size - 2) = roomOf S.sup.size - 2 := wrap_i64 (by omega) (by omega)
  have e2 : IntKind.wrap .i64 (Int.tdiv (roomOf S.sup.size - 2) 4) = (roomOf S.sup.size - 2) / 4 := by
    rw [Int.tdiv_eq_ediv_of_nonneg (by omega), wrap_i64 (by omega) (by omega)]
  rw [e1, e2]
  refine splitW_i (fun hz => ?_) (fun hz => ?_)
  · rw [if_pos (.inl (of_decide_eq_true hz))]
    exact ⟨rfl, he⟩
  have hz := of_decide_eq_false hz
  refine splitW_i (fun hq => ?_) (fun hq => ?_)
  · rw [if_pos (.inr (of_decide_eq_true hq))]
    exact ⟨rfl, he⟩
  have hq := of_decide_eq_false hq
  rw [if_neg (by omega), wrap_i64 (x := 4 * k) (by omega) (by omega), wrap_i64 (by omega) (by omega)]
  exact ⟨rfl, he⟩
theorem markget_calls (h : SpM w b db S F Fd x hb hr nb nr m) (n : Nat) (hn : n < 4294967296) :
    Calls Tryz.prog 56 #[.pointer (mkPt m), .int .u32 (n : Int)] w (Ret fun v w' => v = .int .i64 ((cnt S.mark n : Nat) : Int) ∧ w' = w) := by
  have hm := h.markC
  cases hS : S.mark with
  | none =>
    rw [hS] at hm
    cases m with
    | none => exact getnil_calls w n
    | some a => exact hm.elim
  | some l =>
    rw [hS] at hm
    cases m with
    | none => exact hm.elim
    | some a =>
      obtain ⟨q, hm⟩ := hm
      exact get_calls hm n hn
theorem nowget_calls (h : SpM w b db S F Fd x hb hr nb nr m) (n : Nat) (hn : n < 4294967296) :
    Calls Tryz.prog 56 #[.pointer (some ⟨nb, 0, none⟩), .int .u32 (n : Int)] w (Ret fun v w' => v = .int .i64 ((S.now.getD n 0 : Nat) : Int) ∧ w' = w) := by
  obtain ⟨q, c⟩ := h.nowC
  exact get_calls c n hn
theorem heldget_calls (h : SpM w b db S F Fd x hb hr nb nr m) (n : Nat) (hn : n < 4294967296) :
    Calls Tryz.prog 56 #[.pointer (some ⟨hb, 0, none⟩), .int .u32 (n : Int)] w (Ret fun v w' => v = .int .i64 ((S.held.getD n 0 : Nat) : Int) ∧ w' = w) := by
  obtain ⟨q, c⟩ := h.heldC
  exact get_calls c n hn
theorem draw_is {K : WP} {w : World} (h : K w.drew) : drewW K w := h
/-- A function that tells of numbers, and changes nothing. -/
theorem contfn_calls {w : World} {A : Option Addr} {n c : Nat} {xs : List Nat} {g : FuncId} {cap : Array Value} {q : Nat → Bool} (h : Sli (numE .u32) w A n xs) (hen : enterable Tryz.prog g = true)
    (hq : ∀ y ∈ xs, Calls Tryz.prog g ([Value.int .u32 (y : Int)] ++ cap.toList).toArray w (Ret fun v w' => v = .bool (q y) ∧ w' = w)) :
    Calls Tryz.prog 52 #[.slice A n c, .func (.func g) #[] cap] w (Ret fun v w' => v = .bool (xs.any q) ∧ w' = w) := by
  apply calls52
  unfold S52
  have hl := h.len
  have hle := h.le
  have hi : Calls Tryz.prog 99 #[.slice A n c, .func (.func g) #[] cap] w (Ret fun v w' => (∃ k : Int, v = .int .i64 k ∧ (0 ≤ k ↔ xs.any q = true)) ∧ w' = w) := by
    apply calls99
    unfold S99
    refine loopW_i (fun y w' => w' = w ∧ ∃ i : Nat, i ≤ n ∧ y = ((i : Int), ()) ∧ (xs.take i).any q = false) (fun y => (n - y.1).toNat) ⟨rfl, 0, by omega, rfl, rfl⟩ ?_
    rintro _ w1 ⟨rfl, i, hi, rfl, hno⟩
    dsimp only
    by_cases hlt : i < n
    · refine splitW_t (decide_eq_true (by omega)) ?_
      refine idx_num h (by omega) (by omega) ?_
      rw [Int.toNat_natCast]
      have e : xs[i]? = some (xs.getD i 0) := by rw [List.getD_eq_getElem?_getD, List.getElem?_eq_getElem (by omega)]; rfl
      refine callVW_fn hen (callW_of (hq (xs.getD i 0) (List.mem_of_getElem? e)) ?_)
      rintro _ w2 ⟨rfl, rfl⟩
      refine ⟨_, rfl, ?_⟩
      have e2 : (xs.take (i + 1)).any q = q (xs.getD i 0) := by
        rw [List.take_add_one, e, List.any_append, hno]
        simp
      refine splitW_i (fun hz => ?_) (fun hz => ?_)
      · refine ⟨⟨i, rfl, fun _ => ?_, fun _ => by omega⟩, rfl⟩
        rw [List.any_eq_true]
        exact ⟨_, List.mem_of_getElem? e, hz⟩
      · refine ⟨⟨rfl, i + 1, by omega, by rw [wrap_i64 (by omega) (by omega)]; rfl, by rw [e2]; exact hz⟩, by rw [wrap_i64 (by omega) (by omega)]; omega⟩
    · obtain rfl : i = n := by omega
      refine splitW_f (decide_eq_false (by omega)) ?_
      rw [List.take_of_length_le (by omega)] at hno
      refine ⟨⟨-1, rfl, fun h => by omega, fun h => by rw [hno] at h; cases h⟩, rfl⟩
  refine callW_of hi ?_
  rintro _ w1 ⟨⟨k, rfl, hk⟩, rfl⟩
  refine ⟨k, rfl, ?_, rfl⟩
  have e : decide (k ≥ 0) = xs.any q := by rw [Bool.eq_iff_iff, decide_eq_true_iff]; exact hk
  rw [← e]
/-! ### What is free -/
def freeV (S : Spa) : List (List Value) := S.freeL.map fun n : Nat => [.int .u32 (n : Int)]
def preF (S : Spa) (n : Nat) : List Nat := (List.range n).filter fun n => decide (2 ≤ n) && S.isFree n
theorem preF_succ (S : Spa) (n : Nat) : preF S (n + 1) = if (decide (2 ≤ n) && S.isFree n) = true then preF S n ++ [n] else preF S n := by
  unfold preF
  rw [List.range_succ, List.filter_append]
  simp only [List.filter_cons, List.filter_nil]
  split <;> simp
theorem preF_le (S : Spa) : ∀ (k n : Nat), (preF S n) <+: (preF S (n + k))
  | 0, n => List.prefix_refl _
  | k + 1, n => by
    refine (preF_le S k n).trans ?_
    rw [← Nat.add_assoc, preF_succ]
    split
    · exact List.prefix_append _ _
    · exact List.prefix_refl _
theorem freeL_get {S : Spa} {n : Nat} (hn : n < S.N) (hf : (decide (2 ≤ n) && S.isFree n) = true) : S.freeL[(preF S n).length]? = some n := by
  have h1 : preF S (n + 1) <+: S.freeL := by
    have := preF_le S (S.N - (n + 1)) (n + 1)
    rw [show n + 1 + (S.N - (n + 1)) = S.N by omega] at this
    exact this
  rw [preF_succ, if_pos hf] at h1
  obtain ⟨r, hr⟩ := h1
  rw [← hr]
  simp
def RFree (b r : Nat) (P : WP) : WP := fun w => Blk w r [.pointer (some ⟨b, 0, none⟩)] 24 ∧ P w
theorem free_calls (h : SpM w b db S F Fd x hb hr nb nr m) :
    Calls Tryz.prog 62 #[.pointer (some ⟨b, 0, none⟩)] w (Ret fun v w' => Iter Tryz.prog v (freeV S) (RFree b w.heap.size fun w => SpM w b db S F Fd x hb hr nb nr m) ∧ RFree b w.heap.size (fun w => SpM w b db S F Fd x hb hr nb nr m) w' ∧ w'.heap.size = w.heap.size + 1 ∧ Ext w w') := by
  apply calls62
  unfold S62
  apply newW_i
  have he := (Ext.refl w).alloc (.cells #[.pointer (some ⟨b, 0, none⟩)] 24)
  have hdim := h.dims
  have hN := hdim.n
  have hbl := hdim.blocks
  refine ⟨⟨_, _, rfl, by kernel_rfl, fun l J w1 hJ hR hdr hY => ?_⟩, ⟨Blk.new w _ _, h.ext he⟩, by simp, he⟩
  apply calls103
  unfold S103
  have hlen : (freeV S).length = S.freeL.length := by simp [freeV]
  refine loopW_i (fun y w' => ∃ n : Nat, 2 ≤ n ∧ n ≤ S.N ∧ y = ((n : Int), ()) ∧ J (preF S n).length w') (fun y => (S.N - y.1).toNat) ⟨2, by omega, by omega, rfl, ?_⟩ ?_
  · have : (preF S 2).length = 0 := by rw [preF_succ, if_neg (by simp), preF_succ, if_neg (by simp)]; rfl
    rw [this]
    exact hJ
  rintro _ w2 ⟨n, h2, hn, rfl, hJ2⟩
  dsimp only
  have hR2 := hR _ _ hJ2
  obtain ⟨hbk, hS⟩ := hR2
  obtain ⟨t, hbx⟩ := hS.box
  refine ldW_blk (x := some ⟨b, 0, none⟩) hbk (by rfl) (ptr_i (boxE 3 S.sup.blocks hbx (by rfl) (by rfl) ?_))
  rw [wrap_i64 (by omega) (by omega)]
  by_cases hlt : n < S.N
  · refine splitW_t (decide_eq_true (by omega)) ?_
    have hJ3 := hdr _ _ hJ2
    have hlt32 : n < 4294967296 := by omega
    refine draw_is ?_
    generalize w2.drew = w3 at hJ3 ⊢
    obtain ⟨hbk, hS⟩ := hR _ _ hJ3
    obtain ⟨t, hbx⟩ := hS.box
    obtain ⟨c1, c2, c3⟩ := cnt_lt hS n
    refine ldW_blk (x := some ⟨b, 0, none⟩) hbk (by rfl) (ptr_i (boxE (l := .ptr) 8 (some ⟨nb, 0, none⟩) hbx (by rfl) (by rfl) ?_))
    refine ldW_blk (x := some ⟨b, 0, none⟩) hbk (by rfl) (ptr_i (boxE (l := .ptr) 7 (some ⟨hb, 0, none⟩) hbx (by rfl) (by rfl) ?_))
    refine ldW_blk (x := some ⟨b, 0, none⟩) hbk (by rfl) (ptr_i (boxE (l := .ptr) 9 (mkPt m) hbx (by rfl) (by rfl) ?_))
    refine callW_of (nowget_calls hS n hlt32) ?_
    rintro _ w4 ⟨rfl, rfl⟩
    refine ⟨_, rfl, ?_⟩
    refine ⟨?_, callW_of (heldget_calls hS n hlt32) ?_⟩
    · intro p hp q hq
      simp only [List.mem_cons, List.not_mem_nil, or_false] at hp
      rcases hp with rfl | rfl | rfl | rfl <;> (simp only [List.mem_cons, List.not_mem_nil, or_false] at hq; subst hq)
      · exact (hbx.cell 9).trans rfl
      · exact (hbk.cell 0).trans rfl
      · exact (hbx.cell 7).trans rfl
      · exact (hbk.cell 0).trans rfl
    rintro _ w5 ⟨rfl, rfl⟩
    refine ⟨_, rfl, ?_⟩
    refine ⟨?_, callW_of (markget_calls hS n hlt32) ?_⟩
    · intro p hp q hq
      simp only [List.mem_cons, List.not_mem_nil, or_false] at hp
      rcases hp with rfl | rfl <;> (simp only [List.mem_cons, List.not_mem_nil, or_false] at hq; subst hq)
      · exact (hbx.cell 9).trans rfl
      · exact (hbk.cell 0).trans rfl
    rintro _ w6 ⟨rfl, rfl⟩
    refine ⟨_, rfl, ?_⟩
    rw [wrap_i64 (x := (S.now.getD n 0 : Int) + _) (by omega) (by omega), wrap_i64 (by omega) (by omega)]
    have hfree : S.isFree n = true ↔ S.now.getD n 0 = 0 ∧ S.held.getD n 0 = 0 ∧ cnt S.mark n = 0 := by simp [Spa.isFree, and_assoc]
    have hnx : IntKind.wrap .u32 ((n : Int) + 1) = ((n + 1 : Nat) : Int) := by rw [show (n : Int) + 1 = ((n + 1 : Nat) : Int) by omega, wrap_u32_nat (by omega)]
    refine splitW_i (fun hz => ?_) (fun hz => ?_)
    · have hz := beq_iff_eq.1 hz
      have hf : (decide (2 ≤ n) && S.isFree n) = true := by
        rw [hfree.2 (by omega), decide_eq_true h2]; rfl
      have hget := freeL_get hlt hf
      have hidx : (preF S n).length < (freeV S).length := by
        rw [hlen]
        exact (List.getElem?_eq_some_iff.1 hget).1
      refine .inr ⟨l, rfl, ?_⟩
      have hy := hY _ w6 hidx hJ3
      have el : (freeV S)[(preF S n).length] = [.int .u32 (n : Int)] := by
        obtain ⟨h1, h2⟩ := List.getElem?_eq_some_iff.1 hget
        simp [freeV, h2]
      rw [el] at hy
      obtain ⟨fn, tmps, asg, bd, hy1, hy2⟩ := hy
      refine ⟨fn, tmps, asg, bd, hy1, RoundIn.mono hy2 ?_⟩
      rintro (v | c | _) w7 hv
      · obtain ⟨rfl, hJ7⟩ := hv
        refine ⟨true, rfl, splitW_f (by rfl) ?_⟩
        rw [hnx]
        refine ⟨⟨n + 1, by omega, by omega, rfl, ?_⟩, by omega⟩
        rw [preF_succ, if_pos hf, List.length_append]
        exact hJ7
      · exact hv
      · exact hv
    · have hz := beq_eq_false_iff_ne.1 hz
      rw [hnx]
      refine ⟨⟨n + 1, by omega, by omega, rfl, ?_⟩, by omega⟩
      rw [preF_succ, if_neg (by
        intro hh
        simp only [Bool.and_eq_true, hfree] at hh
        omega)]
      exact hJ3
  · refine splitW_f (decide_eq_false (by omega)) ?_
    obtain rfl : n = S.N := by omega
    rw [hlen]
    exact hJ2
end Go.Proofs.YtjdmggaeagnolaaGreat.V
/- Contracts of the package space: Free, take. -/
set_option linter.unusedVariables false
set_option linter.unusedSimpArgs false
namespace Go.Proofs.YtjdmggaeagnolaaGreat.V
open Go Go.Proofs Go.RowKit Crc
variable {w w' : World} {b db : Nat} {S : Spa} {F Fd : Nat → Prop} {x : SLC} {hb hr nb nr : Nat} {m : MkL}
theorem SpM.sameBut {a c : Nat} (h : SpM w b db S F Fd x hb hr nb nr m) (hs : SameBut a c w w') (h1 : ¬ F a) (h2 : ¬ F c) : SpM w' b db S F Fd x hb hr nb nr m := by
  refine h.only (G := fun k => k = a ∨ k = c) ⟨hs.1, hs.2.1, hs.2.2.1, Nat.le_of_eq hs.2.2.2.1.symm, fun k hk hg => hs.2.2.2.2 k (fun e => hg (.inl e)) (fun e => hg (.inr e))⟩ ?_
  rintro j hj (rfl | rfl)
  · exact h1 hj
  · exact h2 hj
theorem freeN_le (S : Spa) : S.freeN ≤ S.N := by
  unfold Spa.freeN Spa.freeL
  exact Nat.le_trans (List.length_filter_le _ _) (by simp)
theorem freeN_calls (h : SpM w b db S F Fd x hb hr nb nr m) :
    Calls Tryz.prog 17 #[.pointer (some ⟨b, 0, none⟩)] w (Ret fun v w' => v = .int .i64 (S.freeN : Int) ∧ Ext w w') := by
  have hdim := h.dims
  have hN := hdim.n
  have hle := freeN_le S
  apply calls17
  unfold S17
  refine new_i fun r1 w1 hb1 he1 hr1 hs1 => ?_
  refine splitW_f (by rfl) ?_
  refine callW_of (free_calls (h.ext he1)) ?_
  rintro v w2 ⟨hit, hR2, hs2, he2⟩
  refine ⟨v, rfl, ?_⟩
  have hlt := (h.ext he1).lt
  have h12 := he2.size
  have hr2 := hR2.1.lt
  have hlen : (freeV S).length = S.freeN := by simp [freeV, Spa.freeN]
  refine range_i (fun i w' => RFree b w1.heap.size (fun w => SpM w b db S F Fd x hb hr nb nr m) w' ∧ Blk w' r1 [.int .i64 (i : Int)] 3 ∧ Ext w w') hit (fun i w' hI => hI.1) ?_ ?_ ?_ ?_ ?_
  · rintro i w' ⟨⟨g1, g2⟩, g3, g4⟩
    have hx := (Ext.refl w').drew
    exact ⟨⟨g1.ext hx, g2.ext hx⟩, g3.ext hx, g4.trans hx⟩
  · rintro i w' w'' hs ⟨⟨g1, g2⟩, g3, g4⟩
    refine ⟨⟨hs.blk g1 (by omega), g2.sameBut hs (fun hf => ?_) (fun hf => ?_)⟩, hs.blk g3 (by omega), hs.ext g4 (by have := he1.size; omega)⟩
    · have := hlt _ hf; omega
    · have := hlt _ hf; omega
  · intro o
    have hx : Ext w2 ((w2.alloc (.deferred (some []))).alloc o) := ((Ext.refl w2).alloc _).alloc _
    exact ⟨⟨hR2.1.ext hx, hR2.2.ext hx⟩, (hb1.ext he2).ext hx, (he1.trans he2).trans hx⟩
  · rintro i hi w' N jump ⟨⟨g1, g2⟩, g3, g4⟩ hsz hN'
    have hi' : i < S.freeL.length := by have : (freeV S).length = S.freeL.length := by simp [freeV]
                                        omega
    refine ⟨((S.freeL[i] : Nat), ()), by simp [freeV], ?_⟩
    refine ldW_blk (x := (i : Int)) g3 (by rfl) ?_
    rw [wrap_i64 (by omega) (by omega)]
    refine stW_blk g3 (by show 0 < 1; omega) ?_
    have hg := set_grown w' r1 0 (.int .i64 ((i : Int) + 1))
    refine hN' _ ⟨⟨g1.other (p := ⟨r1, 0, none⟩) (by show r1 ≠ w1.heap.size; omega) _, ?_⟩, g3.set 0 (.int .i64 ((i : Int) + 1)), g4.set (p := ⟨r1, 0, none⟩) (by show w.heap.size ≤ r1; omega) _⟩ (by simp) (fun k hk => Below.heap_setCell _ _ _ _ (by show k ≠ r1; omega))
    refine g2.only (Only.of_grown (F := fun k => k = r1) hg (fun j hj => .inl (by injection hj with hj; exact hj.symm))) (fun j hj e => ?_)
    have hF := h.lt j hj
    have : j = r1 := e
    omega
  · rintro w' ⟨⟨g1, g2⟩, g3, g4⟩ hsz hdf
    rw [jumpK]
    rw [hlen] at g3
    refine ldW_blk (x := (S.freeN : Int)) g3 (by rfl) ?_
    refine stW_blk g3 (by show 0 < 1; omega) ?_
    have g5 := g3.set 0 (.int .i64 (S.freeN : Int))
    refine leave_i ?_ ?_
    · rw [Below.heap_setCell _ _ _ _ (by show w2.heap.size ≠ r1; omega)]
      exact hdf
    have hsb := sameBut_setO (a := w2.heap.size) (b := w2.heap.size + 1) (w := w'.setCell ⟨r1, 0, none⟩ (.int .i64 (S.freeN : Int))) (o := .deferred none) (.inl rfl)
    refine ldW_blk (x := (S.freeN : Int)) (hsb.blk g5 (by omega)) (by rfl) ?_
    refine ⟨rfl, hsb.ext (g4.set (p := ⟨r1, 0, none⟩) (by show w.heap.size ≤ r1; omega) _) (by have := he1.size; omega)⟩
theorem freenil_calls (w : World) : Calls Tryz.prog 17 #[.pointer none] w (Ret fun v w' => v = .int .i64 0 ∧ Ext w w') := by
  apply calls17
  unfold S17
  refine new_i fun r1 w1 hb1 he1 hr1 hs1 => ?_
  refine splitW_t (by rfl) (stW_blk hb1 (by show 0 < 1; omega) ?_)
  refine ldW_blk (x := (0 : Int)) (hb1.set 0 (.int .i64 0)) (by rfl) ⟨rfl, he1.set (p := ⟨r1, 0, none⟩) (by show w.heap.size ≤ r1; omega) _⟩
/-! ### take -/
/-- Counts that are 1 at what was taken and put back, and the others. -/
def subs (l : List Nat) : List Nat → List Nat
  | [] => l
  | n :: r => subs (subL l n) r
theorem subs_append (l : List Nat) : ∀ a c : List Nat, subs l (a ++ c) = subs (subs l a) c
  | [], _ => rfl
  | n :: r, c => subs_append (subL l n) r c
theorem subL_length (l : List Nat) (n : Nat) : (subL l n).length = l.length := by unfold subL; split <;> simp
theorem subs_length : ∀ (a l : List Nat), (subs l a).length = l.length
  | [], l => rfl
  | n :: r, l => by rw [subs, subs_length r, subL_length]
theorem sub_now (h : SpM w b db S F Fd x hb hr nb nr m) {n : Nat} (hn : n < 4294967296) :
    Calls Tryz.prog 60 #[.pointer (some ⟨nb, 0, none⟩), .int .u32 (n : Int)] w (Ret fun v w' => v = .tuple #[.int .i64 (subN S.now n : Int), .int .i64 (atE S.now n)] ∧ SpM w' b db { S with now := subL S.now n } F Fd x hb hr nb nr m ∧ w.grownBy w' (some nr)) := by
  obtain ⟨q, c⟩ := h.nowC
  refine (sub_calls c n hn).mono (Ret.mono ?_)
  rintro v w' ⟨rfl, hc, hg⟩
  exact ⟨rfl, h.setNow hg hc (subL_length _ _), hg⟩
theorem takeback_calls {A : Option Addr} {n c r1 r2 : Nat} {ns : List Nat} (h : SpM w b db S F Fd x hb hr nb nr m) (h1 : Blk w r1 [.slice A n c] 38) (h2 : Blk w r2 [.pointer (some ⟨b, 0, none⟩)] 24) (hs : Sli (numE .u32) w A n ns)
    (hns : ∀ k ∈ ns, k < 4294967296) (hf1 : r1 ≠ nr) (hf2 : r2 ≠ nr) (hA : ∀ a, A = some a → a.block ≠ nr) :
    DCalls Tryz.prog 100 [.pointer (some ⟨r1, 0, none⟩), .pointer (some ⟨r2, 0, none⟩)] w fun _ w' => SpM w' b db { S with now := subs S.now ns } F Fd x hb hr nb nr m ∧ w.grownBy w' (some nr) := by
  apply callsD100
  unfold S100
  have hl := hs.len
  have hle := hs.le
  refine ldW_blk (x := (A, n, c)) h1 (by rfl) ?_
  dsimp only
  refine loopW_i (fun y w' => ∃ i : Nat, i ≤ n ∧ y = ((i : Int), ()) ∧ SpM w' b db { S with now := subs S.now (ns.take i) } F Fd x hb hr nb nr m ∧ w.grownBy w' (some nr)) (fun y => (n - y.1).toNat) ⟨0, by omega, rfl, h, grownBy_refl _ _⟩ ?_
  rintro _ w1 ⟨i, hi, rfl, hS, hg⟩
  dsimp only
  by_cases hlt : i < n
  · refine splitW_t (decide_eq_true (by omega)) ?_
    have hs1 : Sli (numE .u32) w1 A n ns := hs.grown hg (fun a ha e => hA a ha (by injection e))
    refine idx_num hs1 (by omega) (by omega) ?_
    rw [Int.toNat_natCast]
    have e : ns[i]? = some (ns.getD i 0) := by rw [List.getD_eq_getElem?_getD, List.getElem?_eq_getElem (by omega)]; rfl
    obtain ⟨t, hbx⟩ := hS.box
    refine ldW_blk (x := some ⟨b, 0, none⟩) (h2.grown hg (by simpa using hf2)) (by rfl) (ptr_i (boxE (l := .ptr) 8 (some ⟨nb, 0, none⟩) hbx (by rfl) (by rfl) ?_))
    refine callW_of (sub_now hS (hns _ (List.mem_of_getElem? e))) ?_
    rintro _ w2 ⟨rfl, hS2, hg2⟩
    refine ⟨(_, _, ()), rfl, ?_⟩
    have e2 : subs S.now (ns.take (i + 1)) = subL (subs S.now (ns.take i)) (ns.getD i 0) := by
      rw [List.take_add_one, e, subs_append]
      rfl
    refine ⟨⟨i + 1, by omega, by rw [wrap_i64 (by omega) (by omega)]; rfl, by rw [e2]; exact hS2, grownBy_tr hg hg2 (fun j hj => .inl hj)⟩, by rw [wrap_i64 (by omega) (by omega)]; omega⟩
  · refine splitW_f (decide_eq_false (by omega)) ?_
    rw [List.take_of_length_le (by omega)] at hS
    exact ⟨hS, hg⟩
end Go.Proofs.YtjdmggaeagnolaaGreat.V
/- Contracts of the package space: take. -/
set_option linter.unusedVariables false
set_option linter.unusedSimpArgs false
namespace Go.Proofs.YtjdmggaeagnolaaGreat.V
open Go Go.Proofs Go.RowKit Crc
/-- A loop whose measure is told beside what holds. -/
theorem loopW_x {T : Type} {x0 : T} {B : T → (T → WP) → WP} {w : World} (I : T → Nat → WP) (k0 : Nat) (h0 : I x0 k0 w)
    (h : ∀ x k w (J : T → WP), I x k w → (∀ x' k' w', k' < k → I x' k' w' → J x' w') → B x J w) : loopW T x0 B w := by
  classical
  refine ⟨fun x w => ∃ k, I x k w, fun x w => if hh : ∃ k, I x k w then Classical.choose (least hh) else 0, ⟨k0, h0⟩, ?_⟩
  rintro x w ⟨k, hk⟩
  have hh : ∃ k, I x k w := ⟨k, hk⟩
  have hs := Classical.choose_spec (least hh)
  refine h x _ w _ hs.1 (fun x' k' w' hlt hI => ⟨⟨k', hI⟩, ?_⟩)
  have hh' : ∃ k, I x' k w' := ⟨k', hI⟩
  simp only [dif_pos hh', dif_pos hh]
  exact Nat.lt_of_le_of_lt ((Classical.choose_spec (least hh')).2 k' hI) hlt
theorem list_ext_getD {l r : List Nat} (hl : l.length = r.length) (h : ∀ k, l.getD k 0 = r.getD k 0) : l = r := by
  apply List.ext_getElem hl
  intro k h1 h2
  have := h k
  rw [List.getD_eq_getElem?_getD, List.getD_eq_getElem?_getD, List.getElem?_eq_getElem h1, List.getElem?_eq_getElem h2] at this
  exact this
theorem getD_setN (l : List Nat) (i k x : Nat) : (l.set i x).getD k 0 = if i = k ∧ k < l.length then x else l.getD k 0 := by
  rw [List.getD_eq_getElem?_getD, List.getD_eq_getElem?_getD, List.getElem?_set]
  by_cases hik : i = k
  · subst hik
    by_cases hk : i < l.length
    · simp [hk]
    · simp [hk]
  · rw [if_neg hik, if_neg (fun h => hik h.1)]
def onL (l : List Nat) (ns : List Nat) : List Nat := ns.foldl (fun l n => l.set n 1) l
theorem onL_append (l a : List Nat) (n : Nat) : onL l (a ++ [n]) = (onL l a).set n 1 := by simp [onL]
theorem onL_length : ∀ (ns l : List Nat), (onL l ns).length = l.length
  | [], l => rfl
  | n :: r, l => by rw [onL, List.foldl_cons]; show (onL (l.set n 1) r).length = _; rw [onL_length r]; simp
theorem onL_get : ∀ (ns l : List Nat) (k : Nat), (∀ n ∈ ns, n < l.length) → (onL l ns).getD k 0 = if k ∈ ns then 1 else l.getD k 0
  | [], l, k, _ => by simp [onL]
  | n :: r, l, k, h => by
    show (onL (l.set n 1) r).getD k 0 = _
    rw [onL_get r _ k (fun j hj => by rw [List.length_set]; exact h j (List.mem_cons_of_mem _ hj)), getD_setN]
    have hn := h n List.mem_cons_self
    by_cases hk : k ∈ r
    · rw [if_pos hk, if_pos (List.mem_cons_of_mem _ hk)]
    · rw [if_neg hk]
      by_cases hkn : n = k
      · subst hkn
        rw [if_pos ⟨rfl, hn⟩, if_pos List.mem_cons_self]
      · rw [if_neg (fun e => hkn e.1), if_neg (fun e => by rcases List.mem_cons.1 e with e | e; exact hkn e.symm; exact hk e)]
theorem subs_get : ∀ (ns l : List Nat) (k : Nat), ns.Nodup → (∀ n ∈ ns, 2 ≤ n ∧ n < l.length ∧ l.getD n 0 ≠ 0) → (subs l ns).getD k 0 = if k ∈ ns then l.getD k 0 - 1 else l.getD k 0
  | [], l, k, _, _ => by simp [subs]
  | n :: r, l, k, hnd, h => by
    obtain ⟨h2, hlt, h0⟩ := h n List.mem_cons_self
    obtain ⟨hnr, hnd⟩ := List.nodup_cons.1 hnd
    have ea : atE l n = 0 := by unfold atE; rw [if_neg (by omega), if_neg h0]
    have es : subL l n = l.set n (l.getD n 0 - 1) := by
      unfold subL
      rw [if_pos ea]
    show (subs (subL l n) r).getD k 0 = _
    rw [es, subs_get r _ k hnd (fun j hj => ?_), getD_setN]
    · by_cases hkn : n = k
      · subst hkn
        rw [if_neg hnr, if_pos ⟨rfl, hlt⟩, if_pos List.mem_cons_self]
      · rw [if_neg (show ¬ (n = k ∧ k < l.length) from fun e => hkn e.1)]
        by_cases hk : k ∈ r
        · rw [if_pos hk, if_pos (List.mem_cons_of_mem _ hk)]
        · rw [if_neg hk, if_neg (fun e => by rcases List.mem_cons.1 e with e | e; exact hkn e.symm; exact hk e)]
    · obtain ⟨g1, g2, g3⟩ := h j (List.mem_cons_of_mem _ hj)
      refine ⟨g1, by rw [List.length_set]; exact g2, ?_⟩
      rw [getD_setN, if_neg (show ¬ (n = j ∧ j < l.length) from fun e => hnr (e.1 ▸ hj))]
      exact g3
/-- What has been marked on the way to what is taken. -/
structure Marked (S : Spa) (ns : List Nat) : Prop where
  nodup : ns.Nodup
  each : ∀ n ∈ ns, 2 ≤ n ∧ n < S.now.length ∧ S.now.getD n 0 = 0 ∧ cnt S.mark n ≠ 0
theorem Marked.get {S : Spa} {ns : List Nat} (h : Marked S ns) (k : Nat) : (onL S.now ns).getD k 0 = if k ∈ ns then 1 else S.now.getD k 0 := onL_get _ _ _ (fun n hn => (h.each n hn).2.1)
theorem Marked.back {S : Spa} {ns : List Nat} (h : Marked S ns) : subs (onL S.now ns) ns = S.now := by
  refine list_ext_getD (by rw [subs_length, onL_length]) (fun k => ?_)
  rw [subs_get _ _ _ h.nodup (fun n hn => ?_), h.get]
  · split
    · rename_i hk
      have := (h.each k hk).2.2.1
      omega
    · rfl
  · obtain ⟨g1, g2, g3, g4⟩ := h.each n hn
    refine ⟨g1, by rw [onL_length]; exact g2, ?_⟩
    rw [h.get, if_pos hn]
    decide
theorem Marked.backSet {S : Spa} {ns : List Nat} (h : Marked S ns) {n : Nat} (hn : n ∉ ns) : subs ((onL S.now ns).set n 1) ns = S.now.set n 1 := by
  refine list_ext_getD (by rw [subs_length, List.length_set, onL_length, List.length_set]) (fun k => ?_)
  rw [subs_get _ _ _ h.nodup (fun j hj => ?_), getD_setN, getD_setN, h.get, onL_length]
  · by_cases hk : k ∈ ns
    · rw [if_pos hk, if_neg (show ¬ (n = k ∧ k < S.now.length) from fun e => hn (e.1 ▸ hk)), if_pos hk, if_neg (show ¬ (n = k ∧ k < S.now.length) from fun e => hn (e.1 ▸ hk))]
      have := (h.each k hk).2.2.1
      omega
    · rw [if_neg hk, if_neg hk]
  · obtain ⟨g1, g2, g3, g4⟩ := h.each j hj
    refine ⟨g1, by rw [List.length_set, onL_length]; exact g2, ?_⟩
    rw [getD_setN, if_neg (show ¬ (n = j ∧ j < (onL S.now ns).length) from fun e => hn (e.1 ▸ hj)), h.get, if_pos hj]
    decide
theorem findIdx_is {p : Nat → Bool} {n N : Nat} (hn : n < N) (hp : p n = true) (hno : ∀ j, j < n → p j = false) : (List.range N).findIdx p = n := by
  have h1 : (List.range N).findIdx p < (List.range N).length := List.findIdx_lt_length_of_exists ⟨n, List.mem_range.2 hn, hp⟩
  rw [List.length_range] at h1
  rcases Nat.lt_trichotomy ((List.range N).findIdx p) n with h | h | h
  · have := List.findIdx_getElem (p := p) (xs := List.range N) (w := by rw [List.length_range]; exact h1)
    rw [List.getElem_range, hno _ h] at this
    cases this
  · exact h
  · have := List.not_of_lt_findIdx (p := p) (xs := List.range N) h
    rw [List.getElem_range, hp] at this
    simp at this
theorem isFree_iff {S : Spa} {n : Nat} : S.isFree n = true ↔ S.now.getD n 0 = 0 ∧ S.held.getD n 0 = 0 ∧ cnt S.mark n = 0 := by simp [Spa.isFree, and_assoc]
theorem freeAt_iff {l hl : List Nat} {n : Nat} : freeAt l hl n = true ↔ l.getD n 0 = 0 ∧ hl.getD n 0 = 0 := by simp [freeAt]
theorem Marked.take {S : Spa} {ns : List Nat} (h : Marked S ns) (hlt : takeI (onL S.now ns) S.held < S.now.length) (h0 : cnt S.mark (takeI (onL S.now ns) S.held) = 0) : S.takeI = takeI (onL S.now ns) S.held := by
  have hf := freeAt_iff.1 (takeI_is (l := onL S.now ns) (hl := S.held) (by rw [onL_length]; exact hlt))
  have hg := h.get (takeI (onL S.now ns) S.held)
  refine findIdx_is hlt (isFree_iff.2 ⟨?_, hf.2, h0⟩) (fun j hj => ?_)
  · by_cases hk : takeI (onL S.now ns) S.held ∈ ns
    · exact absurd h0 (h.each _ hk).2.2.2
    · rw [if_neg hk] at hg; omega
  · have := takeI_not hj
    cases hq : S.isFree j with
    | false => rfl
    | true =>
      obtain ⟨g1, g2, g3⟩ := isFree_iff.1 hq
      have hgj := h.get j
      by_cases hk : j ∈ ns
      · exact absurd g3 (h.each _ hk).2.2.2
      · rw [if_neg hk] at hgj
        rw [freeAt_iff.2 ⟨by omega, g2⟩] at this
        cases this
theorem Marked.none {S : Spa} {ns : List Nat} (h : Marked S ns) (hlt : ¬ takeI (onL S.now ns) S.held < S.now.length) : ¬ S.takeI < S.now.length := by
  intro hh
  have hp := List.findIdx_getElem (p := S.isFree) (xs := List.range S.now.length) (w := by rw [List.length_range]; exact hh)
  rw [List.getElem_range] at hp
  obtain ⟨g1, g2, g3⟩ := isFree_iff.1 hp
  have hgj := h.get S.takeI
  have hk : S.takeI ∉ ns := fun hk => absurd g3 (h.each _ hk).2.2.2
  have g1' : S.now.getD S.takeI 0 = 0 := g1
  rw [if_neg hk] at hgj
  have := takeI_not (l := onL S.now ns) (hl := S.held) (i := S.takeI) (by omega)
  have hf : freeAt (onL S.now ns) S.held S.takeI = true := freeAt_iff.2 ⟨by omega, g2⟩
  rw [hf] at this
  cases this
variable {w w' : World} {b db : Nat} {S : Spa} {F Fd : Nat → Prop} {x : SLC} {hb hr nb nr : Nat} {m : MkL}
theorem take_now (h : SpM w b db S F Fd x hb hr nb nr m) :
    Calls Tryz.prog 40 #[.pointer (some ⟨nb, 0, none⟩), .pointer (some ⟨hb, 0, none⟩)] w (Ret fun v w' => v = .tuple #[.int .u32 ((takeN S.now S.held : Nat) : Int), .int .i64 (takeE S.now S.held)] ∧ SpM w' b db { S with now := takeL S.now S.held } F Fd x hb hr nb nr m ∧ w.grownBy w' (some nr)) := by
  obtain ⟨q, c⟩ := h.nowC
  have hnd := h.nodup
  simp only [spOwn, List.nodup_cons, List.mem_cons, not_or] at hnd
  refine (take_calls c (.inr ⟨hb, hr, rfl, h.heldC, by rw [h.ok.held, h.ok.now], hnd.2.1.2.2.1, hnd.2.2.1.2.1⟩)).mono (Ret.mono ?_)
  rintro v w' ⟨rfl, hc, hg⟩
  exact ⟨rfl, h.setNow hg hc (by unfold takeL; split <;> simp), hg⟩
theorem nodup_len : ∀ {N : Nat} {ns : List Nat}, ns.Nodup → (∀ n ∈ ns, n < N) → ns.length ≤ N
  | 0, ns, _, hb => by
    cases ns with
    | nil => exact Nat.le_refl _
    | cons a r => have := hb a List.mem_cons_self; omega
  | N + 1, ns, h, hb => by
    have h2 := nodup_len (N := N) (ns := ns.erase N) (h.erase N) (fun n hn => by
      have := hb n (List.mem_of_mem_erase hn)
      have := (h.mem_erase_iff.1 hn).1
      omega)
    rw [List.length_erase] at h2
    split at h2 <;> omega
theorem takeS_calls (h : SpM w b db S F Fd x hb hr nb nr m) (h01 : S.now.getD 0 0 ≠ 0 ∧ S.now.getD 1 0 ≠ 0) :
    Calls Tryz.prog 57 #[.pointer (some ⟨b, 0, none⟩)] w (Ret fun v w' => v = .tuple #[.int .u32 ((S.takeN : Nat) : Int), .int .i64 S.takeE] ∧ SpM w' b db { S with now := S.takeL } F Fd x hb hr nb nr m ∧ Only F w w') := by
  have hFlt := h.lt
  have hnrF : F nr := (h.own nr).2 (.inr (by simp [spOwn]))
  have hdim := h.dims
  have hN := hdim.n
  have hlen := h.ok.now
  apply calls57
  unfold S57
  refine new_i fun r1 w1 hb1 he1 hr1 hs1 => ?_
  refine new_i fun r2 w2 hb2 he2 hr2 hs2 => ?_
  have hnr := hFlt nr hnrF
  have hb1 := hb1.ext he2
  have he := he1.trans he2
  have hz := he1.size
  refine loopW_x (fun _ k w' => ∃ (ns : List Nat) (A : Option Addr) (c : Nat), k = S.N - ns.length ∧ Marked S ns ∧ SpM w' b db { S with now := onL S.now ns } F Fd x hb hr nb nr m ∧ Blk w' r1 [.pointer (some ⟨b, 0, none⟩)] 24
    ∧ Blk w' r2 [.slice A ns.length c] 38 ∧ Owni (numE .u32) 35 w' w2.heap.size A ns.length c ns ∧ Only F w w') (S.N - 0) ⟨[], none, 0, rfl, ⟨List.nodup_nil, by simp⟩, h.ext he, hb1, hb2, Owni.nil _ _ _, Only.of_ext he⟩ ?_
  rintro ⟨⟩ k w3 J ⟨ns, A, c, rfl, hM, hS, g1, g2, g3, g4⟩ hJ
  refine draw_i fun w4 he4 _ _ => ?_
  have hS := hS.ext he4
  have g1 := g1.ext he4
  have g2 := g2.ext he4
  have g3 := g3.ext he4
  have g4 := Only.trans g4 (Only.of_ext (F := F) he4) (fun j hj => .inl hj)
  obtain ⟨t, hbx⟩ := hS.box
  refine ldW_blk (x := some ⟨b, 0, none⟩) g1 (by rfl) (ptr_i (boxE (l := .ptr) 8 (some ⟨nb, 0, none⟩) hbx (by rfl) (by rfl) ?_))
  refine ldW_blk (x := some ⟨b, 0, none⟩) g1 (by rfl) (ptr_i (boxE (l := .ptr) 7 (some ⟨hb, 0, none⟩) hbx (by rfl) (by rfl) ?_))
  refine callW_of (take_now hS) ?_
  rintro _ w5 ⟨rfl, hS5, hg5⟩
  refine ⟨(((takeN (onL S.now ns) S.held : Nat) : Int), takeE (onL S.now ns) S.held, ()), rfl, ?_⟩
  have hg5' : ∀ j, some nr = some j → F j ∨ w.heap.size ≤ j := fun j hj => .inl (by injection hj with hj; subst hj; exact hnrF)
  have o5 : Only F w w5 := Only.trans g4 (Only.of_grown (F := F) hg5 (fun j hj => .inl (by injection hj with hj; subst hj; exact hnrF))) (fun j hj => .inl hj)
  have g1 := g1.grown hg5 (by simp; omega)
  have g2 := g2.grown hg5 (by simp; omega)
  have hge : ∀ j, orow A = some j → w2.heap.size ≤ j := g3.row
  have g3 := g3.grown hg5 (fun j hj e => by injection hj with hj; subst hj; have := hge _ e; have := he.size; omega)
  have hn32 : ∀ n ∈ ns, n < 4294967296 := fun n hn => by have := (hM.each n hn).2.1; omega
  have hAnr : ∀ a, A = some a → a.block ≠ nr := fun a ha e => by have := hge a.block (by rw [ha]; rfl); have := he.size; omega
  -- the end: what was marked goes back
  have fin : ∀ {l : List Nat} {l' : List Nat} {w6 : World} {v : Value}, SpM w6 b db { S with now := l } F Fd x hb hr nb nr m → Ext w5 w6 → subs l ns = l' → v = .tuple #[.int .u32 ((S.takeN : Nat) : Int), .int .i64 S.takeE] → l' = S.takeL →
      leaveW Tryz.prog (⟨.fn (.func 100) #[.pointer (some ⟨r2, 0, none⟩), .pointer (some ⟨r1, 0, none⟩)], #[]⟩ :: []) (fun w' => v = .tuple #[.int .u32 ((S.takeN : Nat) : Int), .int .i64 S.takeE] ∧ SpM w' b db { S with now := S.takeL } F Fd x hb hr nb nr m ∧ Only F w w') w6 := by
    rintro l l' w6 v hS6 he6 rfl hv hl
    refine .inr ⟨_, _, rfl, by kernel_rfl, ?_⟩
    refine CallsDIn.mono (takeback_calls hS6 (g2.ext he6) (g1.ext he6) ((g3.ext he6).sl) hn32 (by omega) (by omega) hAnr) ?_
    rintro e u' w7 ⟨hu, hR⟩
    refine ⟨hu, ?_⟩
    cases e with
    | returned v7 =>
      obtain ⟨hS7, hg7⟩ := hR
      refine ⟨hv, ?_, ?_⟩
      · rw [← hl]; exact hS7
      · exact Only.trans (Only.trans o5 (Only.of_ext (F := F) he6) (fun j hj => .inl hj)) (Only.of_grown (F := F) hg7 (fun j hj => .inl (by injection hj with hj; subst hj; exact hnrF))) (fun j hj => .inl hj)
    | panicked c => exact hR.elim
    | outgrown => exact hR.elim
  have hol : (onL S.now ns).length = S.now.length := onL_length _ _
  by_cases hlt : takeI (onL S.now ns) S.held < S.now.length
  · have eN : takeN (onL S.now ns) S.held = takeI (onL S.now ns) S.held := by unfold takeN; rw [if_pos (by omega)]
    have eE : takeE (onL S.now ns) S.held = 0 := by unfold takeE; rw [if_pos (by omega)]
    have eL : takeL (onL S.now ns) S.held = (onL S.now ns).set (takeI (onL S.now ns) S.held) 1 := by unfold takeL; rw [if_pos (by omega)]
    dsimp only at eN eE ⊢
    rw [eN, eE]
    rw [eL] at hS5
    have hf := freeAt_iff.1 (takeI_is (l := onL S.now ns) (hl := S.held) (by omega))
    have hget := hM.get (takeI (onL S.now ns) S.held)
    generalize hn : takeI (onL S.now ns) S.held = n at *
    have hnns : n ∉ ns := fun hk => by rw [if_pos hk] at hget; omega
    rw [if_neg hnns] at hget
    have h2n : 2 ≤ n := by
      rcases Nat.lt_or_ge n 2 with hh | hh
      · have : n = 0 ∨ n = 1 := by omega
        rcases this with rfl | rfl
        · exact absurd (by omega : S.now.getD 0 0 = 0) h01.1
        · exact absurd (by omega : S.now.getD 1 0 = 0) h01.2
      · exact hh
    refine splitW_f (by rfl) ?_
    obtain ⟨t, hbx⟩ := hS5.box
    refine ldW_blk (x := some ⟨b, 0, none⟩) g1 (by rfl) (ptr_i (boxE (l := .ptr) 9 (mkPt m) hbx (by rfl) (by rfl) ?_))
    refine callW_of (markget_calls hS5 n (by omega)) ?_
    rintro _ w6 ⟨rfl, hw6⟩
    refine ⟨_, rfl, ?_⟩
    rw [hw6]
    dsimp only
    refine splitW_i (fun hz => ?_) (fun hz => ?_)
    · have hz : cnt S.mark n = 0 := by have := beq_iff_eq.1 hz; omega
      have eT : S.takeI = n := by rw [← hn]; exact hM.take (by rw [hn]; exact hlt) (by rw [hn]; exact hz)
      have e1 : S.takeN = n := by unfold Spa.takeN; rw [eT, if_pos hlt]
      have e2 : S.takeE = 0 := by unfold Spa.takeE; rw [eT, if_pos hlt]
      have e3 : S.takeL = S.now.set n 1 := by unfold Spa.takeL; rw [eT, if_pos hlt]
      exact fin hS5 (Ext.refl w5) (hM.backSet hnns) (by rw [e1, e2]) e3.symm
    · have hz : cnt S.mark n ≠ 0 := by have := beq_eq_false_iff_ne.1 hz; omega
      have hM' : Marked S (ns ++ [n]) := by
        refine ⟨?_, fun k hk => ?_⟩
        · rw [List.nodup_append]
          exact ⟨hM.nodup, by simp, fun a ha c hc e => by simp at hc; subst hc; subst e; exact hnns ha⟩
        · rcases List.mem_append.1 hk with hk | hk
          · exact hM.each k hk
          · rw [List.mem_singleton.1 hk]; exact ⟨h2n, hlt, by omega, hz⟩
      have hlen1 := nodup_len hM'.nodup (fun k hk => (hM'.each k hk).2.1)
      rw [List.length_append, List.length_singleton] at hlen1
      refine ldW_blk (x := (A, ns.length, c)) g2 (by rfl) ?_
      have hle := g3.le
      dsimp only
      refine append_newi (E := numE .u32) (ys := [n]) (by rfl) rfl elem_u32 g3 (by have := he4.size; have := hg5.size; have := g4.2.2.2.1; have := he.size; have hh := g2.lt; omega) (by omega) (by omega) ?_
      intro A' c' w7 ho7 hg7
      have hx7 : ∀ j, orow A = some j → ¬ F j := fun j hj hf => by have := hge j hj; have := hFlt j hf; have := he.size; omega
      have o7 : Only (fun j => orow A = some j) w5 w7 := Only.of_grown hg7.grown (fun j hj => .inl hj)
      have hS7 := hS5.only o7 (fun j hj e => hx7 j e hj)
      have g1 := g1.only o7 (fun e => by have := hge _ e; omega)
      have g2 := g2.only o7 (fun e => by have := hge _ e; omega)
      refine stW_blk g2 (by show 0 < 1; omega) ?_
      have hg8 := set_grown w7 r2 0 (.slice A' (ns.length + 1) c')
      have o8 : Only (fun j => j = r2) w7 (w7.setCell ⟨r2, 0, none⟩ (.slice A' (ns.length + 1) c')) := Only.of_grown hg8 (fun j hj => .inl (by injection hj with hj; exact hj.symm))
      have hr2F : ¬ F r2 := fun hf => by have := hFlt r2 hf; omega
      have hAr2 : ∀ j, orow A' = some j → j ≠ r2 := fun j hj e => by
        have := ho7.row j hj
        omega
      refine hJ () (S.N - (ns ++ [n]).length) _ (by rw [List.length_append, List.length_singleton]; omega) ⟨ns ++ [n], A', c', rfl, hM', ?_, g1.only o8 (by omega), ?_, ?_, ?_⟩
      · rw [onL_append]
        exact hS7.only o8 (fun j hj e => hr2F (by rw [← show j = r2 from e]; exact hj))
      · rw [List.length_append, List.length_singleton]
        exact g2.set 0 _
      · rw [List.length_append, List.length_singleton]
        exact ho7.only o8 (fun j hj e => hAr2 j hj e)
      · refine Only.trans (Only.trans o5 o7 (fun j hj => .inr (by have := hge j hj; have := he.size; omega))) o8 (fun j hj => .inr (by have : j = r2 := hj; omega))
  · have eN : takeN (onL S.now ns) S.held = 0 := by unfold takeN; rw [if_neg (by omega)]
    have eE : takeE (onL S.now ns) S.held = 9 := by unfold takeE; rw [if_neg (by omega)]
    have eL : takeL (onL S.now ns) S.held = onL S.now ns := by unfold takeL; rw [if_neg (by omega)]
    dsimp only at eN eE ⊢
    rw [eN, eE]
    rw [eL] at hS5
    refine splitW_t (by rfl) ?_
    have hno := hM.none hlt
    have e1 : S.takeN = 0 := by unfold Spa.takeN; rw [if_neg hno]
    have e2 : S.takeE = 9 := by unfold Spa.takeE; rw [if_neg hno]
    have e3 : S.takeL = S.now := by unfold Spa.takeL; rw [if_neg hno]
    exact fin hS5 (Ext.refl w5) hM.back (by rw [e1, e2]) e3.symm
end Go.Proofs.YtjdmggaeagnolaaGreat.V
/- Contracts of the package space: page, Get. -/
set_option linter.unusedVariables false
set_option linter.unusedSimpArgs false
namespace Go.Proofs.YtjdmggaeagnolaaGreat.V
open Go Go.Proofs Go.RowKit Crc
theorem left_calls {w : World} {lo b : Nat} {bs : List UInt8} (h : Rdr w lo b bs) :
    Calls Tryz.prog 107 #[.pointer (some ⟨b, 0, none⟩)] w (Ret fun v w' => v = .int .i64 (bs.length : Int) ∧ w' = w) := by
  obtain ⟨A, n, c, t, hb, hs, hc, ha, hlo⟩ := h
  have hl := hs.blen
  apply calls107
  unfold S107
  refine splitW_f (by rfl) (ptr_i (box0 (A, n, c) hb (by rfl) ⟨?_, rfl⟩))
  rw [hl]
theorem bytes_calls {w : World} {lo b k : Nat} {bs : List UInt8} (h : Rdr w lo b bs) (hk : k ≤ 1000000) :
    Calls Tryz.prog 106 #[.pointer (some ⟨b, 0, none⟩), .int .i64 (k : Int)] w (Ret fun v w' => ∃ A n c, v = .tuple #[.slice A n c, .int .i64 (rd bs k).2.1] ∧ Sl w' A n (bV (if bs.length < k then [] else bs.take k)) ∧ w.grownBy w' (some b)) := by
  apply calls106
  unfold S106
  refine splitW_f (by rfl) (splitW_f (decide_eq_false (by omega)) ?_)
  refine callW_of (otake_calls h hk) ?_
  rintro _ w1 ⟨A, n, c, rfl, hs, hr, hg⟩
  refine ⟨((A, n, c), (rd bs k).2.1, ()), rfl, ?_⟩
  have hl := hs.blen
  have hn : n ≤ 1000000 := by
    split at hl
    · simp only [List.length_nil] at hl; omega
    · rw [List.length_take] at hl; omega
  refine callW_of (clone_calls hs (by dsimp only; omega)) ?_
  rintro _ w2 ⟨⟨A2, n2, c2⟩, rfl, ho2, he2⟩
  refine ⟨(A2, n2, c2), rfl, A2, n2, c2, rfl, ho2.sl, grownBy_tr hg (grownBy_of_ext he2 none) (fun j hj => by cases hj)⟩
/-! ### Pages -/
def pgV (p : Page) (y : SLC) : List Value := [.int .u8 (p.1.toNat : Int), .slice y.1 y.2.1 y.2.2, .string p.2.2]
def pgT (p : Page) (y : SLC) : Int × SLC × ByteArray × Unit := ((p.1.toNat : Int), y, p.2.2, ())
abbrev pgLs : List Lf := [.int .u8, .slc, .str]
theorem pgV_one (p : Page) (y : SLC) : ∀ v ∈ pgV p y, v.oneCell' = true := by
  intro v hv
  simp only [pgV, List.mem_cons, List.not_mem_nil, or_false] at hv
  rcases hv with rfl | rfl | rfl <;> rfl
theorem setP {w : World} {r : Nat} {cs : List Value} {t : TypeId} {K : (Int × SLC × ByteArray × Unit) → WP} {us : Array Value} (p : Page) (y : SLC) (hb : Blk w r cs t) (hl : cs.length = 3) (hu : us.size = 3)
    (hK : ∀ w', Blk w' r (pgV p y) t → (∀ w0, Ext w0 w → w0.heap.size ≤ r → Ext w0 w') → (∀ k : Nat, k ≠ r → w'.heap[k]? = w.heap[k]?) → w'.heap.size = w.heap.size → K (pgT p y) w') :
    (guardW (us.size = 3) <| stAW (⟨r, 0, none⟩ : Addr) (pgV p y) <| ldAW pgLs (⟨r, 0, none⟩ : Addr) K) w :=
  refill (vs := pgV p y) hb (by rw [hl]; rfl) (pgV_one p y) hu fun w' hb' hx hs hz => boxA (ls := pgLs) (pgT p y) hb' rfl (hK w' hb' hx hs hz)
theorem retP {w : World} {r : Nat} {t : TypeId} {K : (Int × SLC × ByteArray × Unit) → WP} (p : Page) (y : SLC) (hb : Blk w r (pgV p y) t)
    (hK : ∀ w', (∀ w0, Ext w0 w → w0.heap.size ≤ r → Ext w0 w') → (∀ k : Nat, k ≠ r → w'.heap[k]? = w.heap[k]?) → w'.heap.size = w.heap.size → K (pgT p y) w') :
    (ldAW pgLs (⟨r, 0, none⟩ : Addr) fun (u : Int × SLC × ByteArray × Unit) => guardW ((#[(.int .u8 u.1), (.slice u.2.1.1 u.2.1.2.1 u.2.1.2.2), (.string u.2.2.1)] : Array Value).size = 3) <| stAW (⟨r, 0, none⟩ : Addr) [(.int .u8 u.1), (.slice u.2.1.1 u.2.1.2.1 u.2.1.2.2), (.string u.2.2.1)] <| ldAW pgLs (⟨r, 0, none⟩ : Addr) K) w :=
  boxA (ls := pgLs) (pgT p y) hb rfl (setP p y hb rfl rfl fun w' _ hx hs hz => hK w' hx hs hz)
/-- What page comes back with: the page, its kids one's own. -/
def PgRet (w : World) (p : Page × Int) (v : Value) (w' : World) : Prop := ∃ y : SLC, v = .tuple #[.agg (pgV p.1 y).toArray, .int .i64 p.2] ∧ Owni (numE .u32) 35 w' w.heap.size y.1 y.2.1 y.2.2 p.1.2.1 ∧ Ext w w'
theorem pgRet_bad {w w' : World} (he : Ext w w') (e : Int) : PgRet w (page0, e) (.tuple #[.agg (pgV page0 (none, 0, 0)).toArray, .int .i64 e]) w' := ⟨(none, 0, 0), rfl, Owni.nil _ _ _, he⟩
theorem Owni.keepE {α : Type} {E : Enc α} {e : TypeId} {w w' : World} {B : Nat} {A : Option Addr} {n c r : Nat} {xs : List α} (h : Owni E e w B A n c xs) (hr : r < B) (hz : w'.heap.size = w.heap.size) (ho : w'.os = w.os) (ht : w'.tape = w.tape) (hu : w'.output = w.output) (hs : ∀ k : Nat, k ≠ r → w'.heap[k]? = w.heap[k]?) : Owni E e w' B A n c xs :=
  h.only (F := fun k => k = r) ⟨ho, ht, hu, Nat.le_of_eq hz.symm, fun k _ hk => hs k hk⟩ (fun j hj e => by have := h.row j hj; have : j = r := e; omega)
variable {w w' : World} {b db : Nat} {S : Spa} {F Fd : Nat → Prop} {x : SLC} {hb hr nb nr : Nat} {m : MkL}
theorem page_calls_s (h : SpM w b db S F Fd x hb hr nb nr m) (s : ByteArray) (hs : s.size ≤ 1000000) :
    Calls Tryz.prog 63 #[.pointer (some ⟨b, 0, none⟩), .string s] w (Ret (PgRet w (pageR S.N (B s)))) := by
  have hdim := h.dims
  have hN := hdim.n
  have hbl := hdim.blocks
  apply calls63
  unfold S63
  refine new_i fun r1 w1 hb1 he1 hr1 hz1 => ?_
  have hb1 : Blk w1 r1 (pgV page0 (none, 0, 0)) _ := hb1
  refine callW_of (fget_calls w1 s (by omega)) ?_
  rintro _ w2 ⟨rfl, he2⟩
  refine ⟨(fT (getR (B s)).1, (getR (B s)).2, ()), rfl, ?_⟩
  refine boxed (f := (getR (B s)).1) fun r3 w3 hb3 he3 hr3 => ?_
  have hb1 := (hb1.ext he2).ext he3
  have he := (he1.trans he2).trans he3
  have hz2 := he2.size
  have hz3 := he3.size
  have hlt1 : r1 < w3.heap.size := hb1.lt
  have hlt3 : r3 < w3.heap.size := hb3.lt
  have hbad : ∀ {w4 : World}, Ext w w4 → (pageR S.N (B s)).2 ≠ 0 ∨ (pageR S.N (B s)) = (page0, 10) → pageR S.N (B s) = (page0, 10) := by
    intro w4 _ hh
    rcases hh with hh | hh
    · unfold pageR at hh ⊢
      split
      · rename_i hc; rw [if_pos hc] at hh; exact absurd rfl hh
      · rfl
    · exact hh
  refine splitW_i (fun hq => ?_) (fun hq => ?_)
  · have hq := bne_iff_ne.1 hq
    have ep : pageR S.N (B s) = (page0, 10) := by unfold pageR; rw [if_neg (fun hc => hq hc.1)]
    refine retP page0 (none, 0, 0) hb1 fun w4 hx _ _ => ?_
    rw [ep]
    exact pgRet_bad (hx w he (by omega)) 10
  have hg0 := bne_eq_false_iff_eq.1 hq
  refine box0 (((getR (B s)).1.1.toNat : Nat) : Int) hb3 (by rfl) ?_
  refine splitW_i (fun hq => ?_) (fun hq => ?_)
  · have hq := of_decide_eq_true hq
    have ep : pageR S.N (B s) = (page0, 10) := by unfold pageR; rw [if_neg (fun hc => by omega)]
    refine retP page0 (none, 0, 0) hb1 fun w4 hx _ _ => ?_
    rw [ep]
    exact pgRet_bad (hx w he (by omega)) 10
  have hq3 : 3 ≤ (getR (B s)).1.1.toNat := by have := of_decide_eq_false hq; omega
  have hdl : (B (getR (B s)).1.2.2).length ≤ 4096 := by
    obtain ⟨_, _, _, q4, _⟩ := putR_ok (by rw [(getR_ok hg0).2])
    rw [(getR_ok hg0).1]
    have hsz := B_size s
    have := putR_ok (size := ((B s).length : Int)) (f := frameB (B s)) (by rw [(getR_ok hg0).2])
    omega
  have hpg : pageR S.N (B s) = if pageOKd S.N (B (getR (B s)).1.2.2) then (((getR (B s)).1.1, kidsOf (B (getR (B s)).1.2.2), mkB ((B (getR (B s)).1.2.2).drop (2 + 4 * lev ((B (getR (B s)).1.2.2).take 2)))), 0) else (page0, 10) := by
    unfold pageR
    by_cases hc : pageOKd S.N (B (getR (B s)).1.2.2)
    · rw [if_pos ⟨hg0, hq3, hc⟩, if_pos hc]
    · rw [if_neg (fun hh => hc hh.2.2), if_neg hc]
  rw [hpg]
  clear hpg hbad
  generalize (getR (B s)).1 = f at *
  refine boxF 2 f.2.2 hb3 (by rfl) ?_
  refine conv_bytes (u := .string) (e := 5) (by kernel_rfl) (by kernel_rfl) (by kernel_rfl) (by have := B_size f.2.2; omega) ?_
  intro c w4 hsl he4 hs4 hc4
  have hb1 := hb1.ext he4
  have hb3 := hb3.ext he4
  have he4 := he.trans he4
  have hlt14 := hb1.lt
  have hlt34 := hb3.lt
  refine callW_of (onew_calls hsl (by have := B_size f.2.2; dsimp only; omega)) ?_
  rintro _ w5 ⟨rb, rfl, hrb, hrd, he5⟩
  refine ⟨some ⟨rb, 0, none⟩, rfl, ?_⟩
  have hb1 := hb1.ext he5
  have hb3 := hb3.ext he5
  have he5' := he4.trans he5
  generalize hd : B f.2.2 = d at *
  refine callW_of (number_calls (k := 2) hrd (by omega) (by omega)) ?_
  rintro _ w6 ⟨rfl, hrd6, hg6⟩
  have hb1 := hb1.grown hg6 (by simp; omega)
  have hb3 := hb3.grown hg6 (by simp; omega)
  have he6 : Ext w w6 := he5'.grown hg6 (fun j hj => by injection hj with hj; have := he4.size; omega)
  refine ⟨(((rd d 2).1 : Int), (rd d 2).2.1, ()), rfl, ?_⟩
  dsimp only
  by_cases hl2 : d.length < 2
  · have e1 : rd d 2 = (0, 7, d) := by unfold rd; rw [if_pos hl2]
    rw [e1]
    refine splitW_t (by rfl) ?_
    refine retP page0 (none, 0, 0) hb1 fun w7 hx _ _ => ?_
    rw [if_neg (fun hc => by have := hc.1; omega)]
    exact pgRet_bad (hx w he6 (by omega)) 10
  have e1 : rd d 2 = (lev (d.take 2), 0, d.drop 2) := by unfold rd; rw [if_neg hl2]
  have hk16 : lev (d.take 2) < 65536 := by
    have := rd_lt2 d
    rw [e1] at this
    exact this
  rw [e1] at hrd6 ⊢
  dsimp only at hrd6 ⊢
  refine splitW_f (by rfl) ?_
  refine box0 ((f.1.toNat : Nat) : Int) hb3 (by rfl) ?_
  refine stW_blk hb1 (by show 0 < 3; omega) ?_
  have hg7 := set_grown w6 r1 0 (.int .u8 (f.1.toNat : Int))
  have hb1 : Blk (w6.setCell ⟨r1, 0, none⟩ (.int .u8 (f.1.toNat : Int))) r1 (pgV (f.1, [], ByteArray.empty) (none, 0, 0)) _ := hb1.set 0 (.int .u8 (f.1.toNat : Int))
  have hrd7 := hrd6.grown hg7 (fun j hj => by injection hj with hj; left; omega)
  have he7 := he6.grown hg7 (fun j hj => by injection hj with hj; omega)
  generalize hw7 : w6.setCell ⟨r1, 0, none⟩ (.int .u8 (f.1.toNat : Int)) = w7 at *
  generalize hk : lev (d.take 2) = k at *
  have hr1w : r1 < w4.heap.size := hlt14
  have h45 := he5.size
  have h67 : w6.heap.size ≤ w7.heap.size := by rw [← hw7]; simp
  have h56 := hg6.size
  refine loopW_i (fun y w' => ∃ (i : Nat) (A : Option Addr) (c : Nat), i ≤ k ∧ y = ((i : Int), ()) ∧ 2 + 4 * i ≤ d.length ∧ (∀ n ∈ wordsOf i (d.drop 2), 2 ≤ n ∧ n < S.N) ∧ Ext w w' ∧ w7.heap.size ≤ w'.heap.size ∧ Rdr w' w4.heap.size rb (d.drop (2 + 4 * i)) ∧ Blk w' r1 (pgV (f.1, [], ByteArray.empty) (A, i, c)) 40
      ∧ Owni (numE .u32) 35 w' w7.heap.size A i c (wordsOf i (d.drop 2))) (fun y => (k - y.1).toNat) ⟨0, none, 0, by omega, rfl, by omega, by simp [wordsOf], he7, Nat.le_refl _, hrd7, hb1, Owni.nil _ _ _⟩ ?_
  rintro _ w8 ⟨i, A, c, hi, rfl, hdl8, hok, he8, hz8, hrd8, hb8, ho8⟩
  dsimp only
  by_cases hlt : i < k
  · refine splitW_t (decide_eq_true (by omega)) ?_
    refine callW_of (number_calls (k := 4) hrd8 (by omega) (by omega)) ?_
    rintro _ w9 ⟨rfl, hrd9, hg9⟩
    have hb9 := hb8.grown hg9 (by simp; omega)
    have hrdlt := hrd8.lt
    have hrb7 : rb < w7.heap.size := by have := hrd7.lt; omega
    have ho9 := ho8.grown hg9 (fun j hj e => by injection hj with hj; have := ho8.row _ e; omega)
    have he9 : Ext w w9 := he8.grown hg9 (fun j hj => by injection hj with hj; have := he4.size; omega)
    refine ⟨(((rd (d.drop (2 + 4 * i)) 4).1 : Int), (rd (d.drop (2 + 4 * i)) 4).2.1, ()), rfl, ?_⟩
    dsimp only
    by_cases hshort : d.length < 2 + 4 * i + 4
    · have e2 : rd (d.drop (2 + 4 * i)) 4 = (0, 7, d.drop (2 + 4 * i)) := by unfold rd; rw [if_pos (by rw [List.length_drop]; omega)]
      rw [e2]
      refine splitW_t (by rfl) (setP page0 (none, 0, 0) hb9 (by rfl) (by rfl) fun w10 _ hx _ _ => ?_)
      rw [if_neg (fun hc => by have := hc.2.1; rw [hk] at this; omega)]
      exact pgRet_bad (hx w he9 (by omega)) 10
    have e2 : rd (d.drop (2 + 4 * i)) 4 = (lev ((d.drop (2 + 4 * i)).take 4), 0, (d.drop (2 + 4 * i)).drop 4) := by unfold rd; rw [if_neg (by rw [List.length_drop]; omega)]
    have hn32 : lev ((d.drop (2 + 4 * i)).take 4) < 4294967296 := by
      have := rd_lt4 (d.drop (2 + 4 * i))
      rw [e2] at this
      exact this
    rw [e2] at hrd9 ⊢
    dsimp only at hrd9 ⊢
    refine splitW_f (by rfl) ?_
    have hmem : ∀ (hlen : 2 + 4 * k ≤ d.length), lev ((d.drop (2 + 4 * i)).take 4) ∈ kidsOf d := by
      intro _
      unfold kidsOf wordsOf
      rw [hk]
      refine List.mem_map.2 ⟨i, List.mem_range.2 hlt, ?_⟩
      rw [List.drop_drop]
    generalize hn : lev ((d.drop (2 + 4 * i)).take 4) = n at *
    refine splitW_i (fun hq => ?_) (fun hq => ?_)
    · have hq := of_decide_eq_true hq
      refine setP page0 (none, 0, 0) hb9 (by rfl) (by rfl) fun w10 _ hx _ _ => ?_
      rw [if_neg (fun hc => by have h1 := hc.2.1; rw [hk] at h1; have := hc.2.2 n (hmem h1); omega)]
      exact pgRet_bad (hx w he9 (by omega)) 10
    have hq2 := of_decide_eq_false hq
    obtain ⟨t, hbx⟩ := (h.ext he9).box
    refine ptr_i (boxE 3 S.sup.blocks hbx (by rfl) (by rfl) ?_)
    have eb : IntKind.wrap .u64 S.sup.blocks = (S.N : Int) := by rw [hbl, wrap_u64_nat (by omega)]
    rw [eb]
    refine splitW_i (fun hq => ?_) (fun hq => ?_)
    · have hq := of_decide_eq_true hq
      refine setP page0 (none, 0, 0) hb9 (by rfl) (by rfl) fun w10 _ hx _ _ => ?_
      rw [if_neg (fun hc => by have h1 := hc.2.1; rw [hk] at h1; have := hc.2.2 n (hmem h1); omega)]
      exact pgRet_bad (hx w he9 (by omega)) 10
    have hq3 := of_decide_eq_false hq
    refine boxF (l := .slc) 1 (A, i, c) hb9 (by rfl) ?_
    dsimp only
    rw [wrap_u32_nat (by omega)]
    have hle := ho9.le
    refine append_newi (E := numE .u32) (ys := [n]) (by rfl) rfl elem_u32 ho9 (by have := hg9.size; omega) (by omega) (by omega) ?_
    intro A' c' w10 ho10 hg10
    have hx10 : ∀ j, orow A = some j → w7.heap.size ≤ j := fun j hj => ho9.row j hj
    have hb10 := hb9.grown hg10.grown (fun e => by have := hx10 r1 e.symm; omega)
    have hrd10 := hrd9.grown hg10.grown (fun j hj => by have := hx10 j hj; omega)
    have he10 : Ext w w10 := he9.grown hg10.grown (fun j hj => by have := hx10 j hj; have := he7.size; omega)
    rw [add_mk]
    refine stW_blk hb10 (by show 0 + 1 < 3; omega) ?_
    have hg11 := set_grown w10 r1 (0 + 1) (.slice A' (i + 1) c')
    have hb11 := hb10.set (0 + 1) (.slice A' (i + 1) c')
    have ho11 := ho10.grown hg11 (fun j hj e => by injection hj with hj; have := ho10.row _ e; omega)
    have ew : wordsOf (i + 1) (d.drop 2) = wordsOf i (d.drop 2) ++ [n] := by rw [wordsOf_succ, List.drop_drop, hn]
    refine ⟨⟨i + 1, A', c', by omega, by rw [wrap_u64, show ((i : Int) + 1) % 18446744073709551616 = ((i + 1 : Nat) : Int) by omega], by omega, ?_, he10.grown hg11 (fun j hj => by injection hj with hj; omega), ?_, ?_, hb11, by rw [ew]; exact ho11⟩, by rw [wrap_u64]; omega⟩
    · rw [ew]
      intro a ha
      rcases List.mem_append.1 ha with ha | ha
      · exact hok a ha
      · rw [List.mem_singleton.1 ha]; omega
    · exact Nat.le_trans (Nat.le_trans (Nat.le_trans hz8 hg9.size) hg10.grown.size) hg11.size
    · have := hrd10.grown hg11 (fun j hj => by injection hj with hj; left; omega)
      rw [List.drop_drop] at this
      rw [show 2 + 4 * (i + 1) = 2 + 4 * i + 4 by omega]
      exact this
  obtain rfl : i = k := by omega
  refine splitW_f (decide_eq_false (by omega)) ?_
  refine callW_of (left_calls hrd8) ?_
  rintro _ w9 ⟨rfl, hw9⟩
  refine ⟨_, rfl, ?_⟩
  rw [hw9]
  refine callW_of (bytes_calls hrd8 (by rw [List.length_drop]; omega)) ?_
  rintro _ w10 ⟨A2, n2, c2, rfl, hs10, hg10⟩
  refine ⟨((A2, n2, c2), (rd (d.drop (2 + 4 * i)) (d.drop (2 + 4 * i)).length).2.1, ()), rfl, ?_⟩
  have e3 : rd (d.drop (2 + 4 * i)) (d.drop (2 + 4 * i)).length = (lev ((d.drop (2 + 4 * i)).take (d.drop (2 + 4 * i)).length), 0, (d.drop (2 + 4 * i)).drop (d.drop (2 + 4 * i)).length) := by unfold rd; rw [if_neg (by omega)]
  rw [if_neg (by omega), List.take_length] at hs10
  rw [e3]
  dsimp only
  have hrb7 : rb < w7.heap.size := by have := hrd7.lt; omega
  have hb10 := hb8.grown hg10 (by simp; omega)
  have ho10 := ho8.grown hg10 (fun j hj e => by injection hj with hj; have := ho8.row _ e; omega)
  have he10 : Ext w w10 := he8.grown hg10 (fun j hj => by injection hj with hj; have := he4.size; omega)
  refine conv_str (e := 5) (by kernel_rfl) (by kernel_rfl) (by kernel_rfl) hs10 ?_
  rw [add_mk]
  refine stW_blk hb10 (by show 0 + 2 < 3; omega) ?_
  have hg11 := set_grown w10 r1 (0 + 2) (.string (mkB (d.drop (2 + 4 * i))))
  have hb11 : Blk (w10.setCell ⟨r1, 0 + 2, none⟩ (.string (mkB (d.drop (2 + 4 * i))))) r1 (pgV (f.1, wordsOf i (d.drop 2), mkB (d.drop (2 + 4 * i))) (A, i, c)) _ := hb10.set (0 + 2) (.string (mkB (d.drop (2 + 4 * i))))
  have ho11 := ho10.grown hg11 (fun j hj e => by injection hj with hj; have := ho10.row _ e; omega)
  have he11 := he10.grown hg11 (fun j hj => by injection hj with hj; omega)
  refine retP _ (A, i, c) hb11 fun w12 hx hs12 hz12 => ?_
  have hxx := hx _ (Ext.refl _)
  have ekd : kidsOf d = wordsOf i (d.drop 2) := by unfold kidsOf; rw [hk]
  rw [if_pos ⟨by omega, by rw [hk]; omega, by rw [ekd]; exact hok⟩, ekd]
  have he12 := hx w he11 (by omega)
  refine ⟨(A, i, c), rfl, ?_, he12⟩
  refine Owni.lower ?_ (show w.heap.size ≤ w7.heap.size from he7.size)
  refine ho11.keepE (r := r1) (by omega) hz12 ?_ ?_ ?_ hs12
  · exact he12.os.trans he11.os.symm
  · exact he12.tape.trans he11.tape.symm
  · exact he12.output.trans he11.output.symm
theorem dread_calls (h : SpM w b db S F Fd x hb hr nb nr m) (k : Int) :
    Calls Tryz.prog 48 #[.pointer (some ⟨db, 0, none⟩), .int .i64 k] w (Ret fun v w' => v = .tuple #[.string (S.dev.read k).1, .int .i64 (S.dev.read k).2] ∧ Ext w w') := read_calls h.dev k
theorem Dev.Ok.read {d : Dev} (h : d.Ok) {k : Int} (h0 : 0 ≤ k) (h1 : k < d.blocks) : (d.read k).2 = 0 ∧ ((d.read k).1.size : Int) = d.size := by
  unfold Dev.read
  rw [if_neg (fun hh => hh ⟨h0, h1⟩)]
  refine ⟨rfl, ?_⟩
  have hl := puts_len d.pen d.dur
  have hlen := h.len
  have he := puts_each (n := d.size) d.pen d.dur h.each (fun p hp => (h.pend p hp).2.2)
  have hk : k.toNat < (d.pen.foldl Go.Proofs.YtjdmggaeagnolaaGreat.V.put d.dur).length := by rw [hl]; omega
  show (((d.pen.foldl Go.Proofs.YtjdmggaeagnolaaGreat.V.put d.dur).getD k.toNat ByteArray.empty).size : Int) = _
  rw [List.getD_eq_getElem?_getD, List.getElem?_eq_getElem hk]
  exact he _ (List.getElem_mem hk)
theorem asked_iff {S : Spa} {n : Nat} : S.asked n = true ↔ 2 ≤ n ∧ n < S.N ∧ n ∉ S.sup.pages := by simp [Spa.asked]
theorem getS_calls (h : SpM w b db S F Fd x hb hr nb nr m) {n : Nat} (hn : n < 4294967296) :
    Calls Tryz.prog 22 #[.pointer (some ⟨b, 0, none⟩), .int .u32 (n : Int)] w (Ret (PgRet w (S.get n))) := by
  have hdim := h.dims
  have hN := hdim.n
  have hbl := hdim.blocks
  have hsz := hdim.size
  apply calls22
  unfold S22 Spa.get
  refine new_i fun r1 w1 hb1 he1 hr1 hz1 => ?_
  have hb1 : Blk w1 r1 (pgV page0 (none, 0, 0)) _ := hb1
  refine splitW_f (by rfl) ?_
  refine callW_of (asked_calls (h.ext he1) hn) ?_
  rintro _ w2 ⟨rfl, hw2⟩
  refine ⟨_, rfl, ?_⟩
  rw [hw2]
  refine splitW_i (fun hq => ?_) (fun hq => ?_)
  · have hq : S.asked n = false := by simpa using hq
    rw [if_pos hq]
    refine setP page0 (none, 0, 0) hb1 (by rfl) (by rfl) fun w3 _ hx _ _ => ?_
    exact pgRet_bad (hx w he1 (by omega)) 2
  have hq : S.asked n = true := by simpa using hq
  rw [if_neg (by rw [hq]; simp)]
  obtain ⟨t, hbx⟩ := (h.ext he1).box
  refine ptr_i (boxE (l := .ptr) 8 (some ⟨nb, 0, none⟩) hbx (by rfl) (by rfl) ?_)
  refine callW_of (nowget_calls (h.ext he1) n hn) ?_
  rintro _ w3 ⟨rfl, hw3⟩
  refine ⟨_, rfl, ?_⟩
  rw [hw3]
  refine splitW_i (fun hz => ?_) (fun hz => ?_)
  · have hz : S.now.getD n 0 = 0 := by have := beq_iff_eq.1 hz; omega
    rw [if_pos hz]
    refine setP page0 (none, 0, 0) hb1 (by rfl) (by rfl) fun w3 _ hx _ _ => ?_
    exact pgRet_bad (hx w he1 (by omega)) 8
  have hz : ¬ S.now.getD n 0 = 0 := by have := beq_eq_false_iff_ne.1 hz; omega
  rw [if_neg hz]
  refine ptr_i (box0 (l := .ptr) (some ⟨db, 0, none⟩) hbx (by rfl) ?_)
  rw [wrap_i64 (by omega) (by omega)]
  refine callW_of (dread_calls (h.ext he1) (n : Int)) ?_
  rintro _ w4 ⟨rfl, he4⟩
  obtain ⟨a1, a2, a3⟩ := asked_iff.1 hq
  have hrd := h.dev.ok.read (k := (n : Int)) (by omega) (by rw [← h.ok.blocks]; omega)
  refine ⟨((S.dev.read n).1, (S.dev.read n).2, ()), rfl, ?_⟩
  rw [hrd.1]
  refine splitW_f (by rfl) ?_
  have hb1 := hb1.ext he4
  have he14 := he1.trans he4
  have hr14 : r1 < w4.heap.size := hb1.lt
  refine callW_of (page_calls_s (h.ext he14) (S.dev.read n).1 (by have := hrd.2; have := h.ok.size; omega)) ?_
  rintro _ w5 ⟨y, rfl, ho5, he5⟩
  refine ⟨(pgT (pageR S.N (B (S.dev.read n).1)).1 y, (pageR S.N (B (S.dev.read n).1)).2, ()), rfl, ?_⟩
  have he15 := he14.trans he5
  refine setP (pageR S.N (B (S.dev.read n).1)).1 y (hb1.ext he5) (by rfl) (by rfl) fun w6 _ hx hs6 hz6 => ?_
  have he16 := hx w he15 (by omega)
  refine ⟨y, rfl, ?_, he16⟩
  refine Owni.lower ?_ (show w.heap.size ≤ w4.heap.size from he14.size)
  exact ho5.keepE (r := r1) (by omega) hz6 (he16.os.trans he15.os.symm) (he16.tape.trans he15.tape.symm) (he16.output.trans he15.output.symm) hs6
end Go.Proofs.YtjdmggaeagnolaaGreat.V
/- Contracts of the package space: write, Put. -/
set_option linter.unusedVariables false
set_option linter.unusedSimpArgs false
namespace Go.Proofs.YtjdmggaeagnolaaGreat.V
open Go Go.Proofs Go.RowKit Crc
theorem writeF_calls {w : World} {db : Nat} {d : Dev} {Fd : Nat → Prop} (h : DevAt w db d Fd) (k : Nat) (hk : k < 4294967296) (f : Fra) (hg : f.2.1 < 18446744073709551616) (hn : d.pen.length ≤ 1000000) :
    Calls Tryz.prog 59 #[.pointer (some ⟨db, 0, none⟩), .int .u32 (k : Int), .agg (fV f).toArray] w (Ret fun v w' => v = .int .i64 (writeF d k f).2 ∧ Step w db Fd (writeF d k f).1 w') := by
  apply calls59
  unfold S59 writeF
  refine new_i fun r1 w1 hb1 he1 _ _ => ?_
  have hb1 : Blk w1 r1 (fV f) 97 := hb1
  refine draw_i fun w2 he2 _ _ => ?_
  have hb2 := hb1.ext he2
  have he := he1.trans he2
  refine boxA (ls := fLs) (fT f) hb2 rfl ?_
  refine callW_of (geo_calls (h.ext he)) ?_
  rintro _ w3 ⟨rfl, he3⟩
  refine ⟨(d.size, d.blocks, ()), rfl, ?_⟩
  have hb3 := hb2.ext he3
  have he3 := he.trans he3
  refine ⟨fun l hl p hp => ?_, ?_⟩
  · simp only [List.mem_singleton] at hl
    subst hl
    simp only [List.mem_cons, List.not_mem_nil, or_false] at hp
    rcases hp with rfl | rfl | rfl
    · exact (hb3.cell 0).trans rfl
    · exact (hb3.cell 1).trans rfl
    · exact (hb3.cell 2).trans rfl
  refine callW_of (fput_calls w3 d.size hg) ?_
  rintro _ w4 ⟨rfl, he4⟩
  refine ⟨(mkB (putR d.size f).1, (putR d.size f).2, ()), rfl, ?_⟩
  have he4 := he3.trans he4
  have stay : ∀ {w' : World}, Ext w w' → Step w db Fd d w' := fun e => ⟨Fd, h.ext e, fun k hk => .inl hk, Only.of_ext e⟩
  refine splitW_i (fun hq => ?_) (fun hq => ?_)
  · have hq := bne_iff_ne.1 hq
    rw [if_pos hq]
    exact ⟨rfl, stay he4⟩
  · have hq := bne_eq_false_iff_eq.1 hq
    rw [if_neg (fun hh => hh hq)]
    rw [wrap_i64 (by omega) (by omega)]
    refine callW_of (write_calls (h.ext he4) (k : Int) (mkB (putR d.size f).1) hn) ?_
    rintro _ w5 ⟨rfl, F', g1, g2, g3⟩
    refine ⟨_, rfl, rfl, F', g1, fun j hj => ?_, Only.trans (Only.of_ext he4) g3 (fun j hj => .inl hj)⟩
    rcases g2 j hj with e | e
    · exact .inl e
    · exact .inr (Nat.le_trans he4.size e)
variable {w w' : World} {b db : Nat} {S : Spa} {F Fd : Nat → Prop} {x : SLC} {hb hr nb nr : Nat} {m : MkL}
theorem put1_calls (h : SpM w b db S F Fd x hb hr nb nr m) {r k : Nat} (hr1 : Blk w r [.pointer (some ⟨b, 0, none⟩)] 24) (hk : k < 4294967296) :
    Calls Tryz.prog 53 ([Value.int .u32 (k : Int)] ++ (#[Value.pointer (some ⟨r, 0, none⟩)] : Array Value).toList).toArray w (Ret fun v w' => v = .bool (!S.asked k) ∧ w' = w) := by
  apply calls53
  unfold S53
  refine ldW_blk (x := some ⟨b, 0, none⟩) hr1 (by rfl) ?_
  refine callW_of (asked_calls h hk) ?_
  rintro _ w1 ⟨rfl, rfl⟩
  exact ⟨_, rfl, rfl, rfl⟩
theorem put2_calls (h : SpM w b db S F Fd x hb hr nb nr m) {r k : Nat} (hr1 : Blk w r [.pointer (some ⟨b, 0, none⟩)] 24) (hk : k < 4294967296) :
    Calls Tryz.prog 55 ([Value.int .u32 (k : Int)] ++ (#[Value.pointer (some ⟨r, 0, none⟩)] : Array Value).toList).toArray w (Ret fun v w' => v = .bool (decide (S.now.getD k 0 = 0)) ∧ w' = w) := by
  apply calls55
  unfold S55
  obtain ⟨t, hbx⟩ := h.box
  refine ldW_blk (x := some ⟨b, 0, none⟩) hr1 (by rfl) (ptr_i (boxE (l := .ptr) 8 (some ⟨nb, 0, none⟩) hbx (by rfl) (by rfl) ?_))
  refine callW_of (nowget_calls h k hk) ?_
  rintro _ w1 ⟨rfl, rfl⟩
  refine ⟨_, rfl, ?_, rfl⟩
  congr 1
  rw [Bool.eq_iff_iff, beq_iff_eq, decide_eq_true_iff]
  omega
theorem any_asked {S : Spa} {l : List Nat} : l.any (fun k => !S.asked k) = true ↔ ∃ k ∈ l, S.asked k = false := by simp
theorem any_zero {S : Spa} {l : List Nat} : l.any (fun k => decide (S.now.getD k 0 = 0)) = true ↔ ∃ k ∈ l, S.now.getD k 0 = 0 := by simp
theorem Sli.only' {α : Type} {E : Enc α} {F : Nat → Prop} {w w' : World} {A : Option Addr} {n : Nat} {xs : List α} (h : Sli E w A n xs) (k : Only F w w') (hr : 0 < n → ∀ a, A = some a → ¬ F a.block) : Sli E w' A n xs := by
  rcases Nat.eq_zero_or_pos n with e | e
  · subst e
    have := h.len
    rw [List.eq_nil_of_length_eq_zero this]
    exact Sli.nil w' A
  · exact h.only k (hr e)
theorem putS_calls0 (h : SpM w b db S F Fd x hb hr nb nr m) (h01 : S.now.getD 0 0 ≠ 0 ∧ S.now.getD 1 0 ≠ 0) (hgen : S.sup.gen + 1 < 18446744073709551616) (hpen : S.dev.pen.length ≤ 1000000)
    {A : Option Addr} {n c : Nat} (p : Page) (hs : Sli (numE .u32) w A n p.2.1) (hk32 : ∀ k ∈ p.2.1, k < 4294967296) (hA : 0 < n → ∀ a, A = some a → ¬ F a.block) (hds : p.2.2.size ≤ 1000000000) :
    Calls Tryz.prog 13 #[.pointer (some ⟨b, 0, none⟩), .agg (pgV p (A, n, c)).toArray] w (Ret fun v w' => v = .tuple #[.int .u32 ((S.put p).2.1 : Int), .int .i64 (S.put p).2.2] ∧ StepS w b db F (S.put p).1 w') := by
  have hdim := h.dims
  have hN := hdim.n
  have hsz := hdim.size
  have hroom := hdim.room
  have hFlt := h.lt
  have hl := hs.len
  have hle := hs.le
  apply calls13
  unfold S13
  refine new_i fun r1 w1 hb1 he1 hr1 hz1 => ?_
  refine new_i fun r2 w2 hb2 he2 hr2 hz2 => ?_
  have hb1 := hb1.ext he2
  have he := he1.trans he2
  have hb2 : Blk w2 r2 (pgV p (A, n, c)) 40 := hb2
  have hS := h.ext he
  have hs2 := hs.ext he
  have hz := he1.size
  have stay : ∀ {w' : World}, Ext w w' → StepS w b db F S w' := fun e => ⟨F, ⟨Fd, x, hb, hr, nb, nr, m, h.ext e⟩, fun k hk => .inl hk, Only.of_ext e⟩
  refine ldW_blk (x := some ⟨b, 0, none⟩) hb1 (by rfl) (splitW_f (by rfl) ?_)
  have e1 : ∀ e : Int, S.putE p = e → e ≠ 0 → (fun v w' => v = Value.tuple #[.int .u32 ((S.put p).2.1 : Int), .int .i64 (S.put p).2.2] ∧ StepS w b db F (S.put p).1 w') = fun v w' => v = Value.tuple #[.int .u32 (0 : Int), .int .i64 e] ∧ StepS w b db F S w' := by
    intro e he0 hne
    unfold Spa.put
    rw [if_pos (by rw [he0]; exact hne), he0]
    rfl
  refine joinW_s (fun y w' => y = (decide (p.1.toNat < 3 ∨ p.2.1.length > 65535 ∨ (∃ k ∈ p.2.1, S.asked k = false)), ()) ∧ w' = w2) ?_ (fun J hJ => ?_)
  rotate_left
  · refine box0 ((p.1.toNat : Nat) : Int) hb2 (by rfl) ?_
    refine splitW_i (fun hq => ?_) (fun hq => ?_)
    · have hq := of_decide_eq_true hq
      exact hJ _ _ ⟨by rw [decide_eq_true (.inl (by omega))], rfl⟩
    have hq := of_decide_eq_false hq
    refine boxF (l := .slc) 1 (A, n, c) hb2 (by rfl) (splitW_i (fun hq2 => ?_) (fun hq2 => ?_))
    · have hq2 := of_decide_eq_true hq2
      exact hJ _ _ ⟨by rw [decide_eq_true (.inr (.inl (by dsimp only at hq2; omega)))], rfl⟩
    have hq2 := of_decide_eq_false hq2
    refine boxF (l := .slc) 1 (A, n, c) hb2 (by rfl) ?_
    refine callW_of (contfn_calls (c := c) (q := fun k => !S.asked k) hs2 (by kernel_rfl) (fun k hk => put1_calls hS hb1 (hk32 k hk))) ?_
    rintro _ w3 ⟨rfl, hw3⟩
    refine ⟨_, rfl, hJ _ _ ⟨?_, hw3⟩⟩
    congr 1
    rw [Bool.eq_iff_iff, decide_eq_true_iff, any_asked]
    dsimp only at hq2
    constructor
    · intro hh; exact .inr (.inr hh)
    · rintro (hh | hh | hh)
      · omega
      · omega
      · exact hh
  rintro y w3 ⟨rfl, hw3⟩
  rw [hw3]
  refine splitW_i (fun hq => ?_) (fun hq => ?_)
  · have hq := of_decide_eq_true hq
    have := e1 2 (by unfold Spa.putE; rw [if_pos hq]) (by decide)
    rw [show (Value.tuple #[.int .u32 (0 : Int), .int .i64 (2 : Int)]) = Value.tuple #[.int .u32 (0 : Int), .int .i64 (2 : Int)] from rfl]
    exact (congrFun (congrFun this _) _).mpr ⟨rfl, stay he⟩
  have hq1 := of_decide_eq_false hq
  refine boxF (l := .slc) 1 (A, n, c) hb2 (by rfl) ?_
  refine callW_of (contfn_calls (c := c) (q := fun k => decide (S.now.getD k 0 = 0)) hs2 (by kernel_rfl) (fun k hk => put2_calls hS hb1 (hk32 k hk))) ?_
  rintro _ w4 ⟨rfl, hw4⟩
  refine ⟨_, rfl, ?_⟩
  rw [hw4]
  refine splitW_i (fun hq => ?_) (fun hq => ?_)
  · have := e1 8 (by unfold Spa.putE; rw [if_neg hq1, if_pos (any_zero.1 hq)]) (by decide)
    exact (congrFun (congrFun this _) _).mpr ⟨rfl, stay he⟩
  have hq2 : ¬ ∃ k ∈ p.2.1, S.now.getD k 0 = 0 := fun hh => by rw [any_zero.2 hh] at hq; cases hq
  have hr0 : S.room 0 = S.sup.size - 18 := by unfold Spa.room; rw [hroom, if_neg (by omega)]; omega
  refine joinW_s (fun y w' => y = (decide ((p.2.1.length : Int) > S.room 0 / 4 ∨ (p.2.2.size : Int) > S.room p.2.1.length), ()) ∧ Ext w2 w') ?_ (fun J hJ => ?_)
  rotate_left
  · refine draw_i fun w5 he5 _ _ => ?_
    refine boxF (l := .slc) 1 (A, n, c) (hb2.ext he5) (by rfl) ?_
    refine ldW_blk (x := some ⟨b, 0, none⟩) (hb1.ext he5) (by rfl) ?_
    refine callW_of (roomC_calls (hS.ext he5) (k := 0) (by omega) (by omega)) ?_
    rintro _ w6 ⟨rfl, he6⟩
    have he56 := he5.trans he6
    refine ⟨_, rfl, heldF (hb2.ext he56) (by rfl) ?_⟩
    rw [Int.tdiv_eq_ediv_of_nonneg (by omega), wrap_i64 (x := S.room 0 / 4) (by omega) (by omega)]
    dsimp only
    refine splitW_i (fun hq => ?_) (fun hq => ?_)
    · have hq := of_decide_eq_true hq
      exact hJ _ _ ⟨by rw [decide_eq_true (.inl (by omega))], he56⟩
    have hq := of_decide_eq_false hq
    refine boxF 2 p.2.2 (hb2.ext he56) (by rfl) ?_
    refine ldW_blk (x := some ⟨b, 0, none⟩) (hb1.ext he56) (by rfl) ?_
    refine boxF (l := .slc) 1 (A, n, c) (hb2.ext he56) (by rfl) ?_
    dsimp only
    refine callW_of (roomC_calls (hS.ext he56) (k := (n : Int)) (by omega) (by omega)) ?_
    rintro _ w7 ⟨rfl, he7⟩
    have he57 := he56.trans he7
    refine ⟨_, rfl, heldF (hb2.ext he57) (by rfl) ?_⟩
    refine hJ _ _ ⟨?_, he57⟩
    congr 1
    rw [hl]
    exact decide_eq_decide.2 ⟨fun hh => .inr hh, fun hh => by rcases hh with hh | hh; omega; exact hh⟩
  rintro y w5 ⟨rfl, he25⟩
  have he5 := he.trans he25
  have hb1 := hb1.ext he25
  have hb2 := hb2.ext he25
  refine splitW_i (fun hq => ?_) (fun hq => ?_)
  · have hq := of_decide_eq_true hq
    have := e1 3 (by unfold Spa.putE; rw [if_neg hq1, if_neg hq2, if_pos hq]) (by decide)
    exact (congrFun (congrFun this _) _).mpr ⟨rfl, stay he5⟩
  have hq3 := of_decide_eq_false hq
  refine draw_i fun w6 he6 _ _ => ?_
  have hb1 := hb1.ext he6
  have hb2 := hb2.ext he6
  have he6 := he5.trans he6
  obtain ⟨t, hbx⟩ := (h.ext he6).box
  refine ldW_blk (x := some ⟨b, 0, none⟩) hb1 (by rfl) ?_
  refine ldW_blk (x := some ⟨b, 0, none⟩) hb1 (by rfl) (ptr_i (boxE (l := .slc) 5 x hbx (by rfl) (by rfl) ?_))
  refine callW_of (freeN_calls (h.ext he6)) ?_
  rintro _ w7 ⟨rfl, he7⟩
  refine ⟨_, rfl, ?_⟩
  have hb1 := hb1.ext he7
  have hb2 := hb2.ext he7
  have he7 := he6.trans he7
  obtain ⟨t, hbx⟩ := (h.ext he7).box
  refine ⟨fun l hl' q hq' => ?_, ?_⟩
  · simp only [List.mem_cons, List.not_mem_nil, or_false] at hl'
    rcases hl' with rfl | rfl <;> (simp only [List.mem_cons, List.not_mem_nil, or_false] at hq'; subst hq')
    · exact (hbx.cell 5).trans rfl
    · exact (hb1.cell 0).trans rfl
  have hpl := h.pgs.len
  refine splitW_i (fun hq => ?_) (fun hq => ?_)
  · have hq := of_decide_eq_true hq
    have := e1 9 (by unfold Spa.putE; rw [if_neg hq1, if_neg hq2, if_neg hq3, if_pos (by omega)]) (by decide)
    exact (congrFun (congrFun this _) _).mpr ⟨rfl, stay he7⟩
  have hq4 := of_decide_eq_false hq
  have hE0 : S.putE p = 0 := by unfold Spa.putE; rw [if_neg hq1, if_neg hq2, if_neg hq3, if_neg (by omega)]
  refine ldW_blk (x := some ⟨b, 0, none⟩) hb1 (by rfl) ?_
  refine callW_of (takeS_calls (h.ext he7) h01) ?_
  rintro _ w8 ⟨rfl, hS8, hO8⟩
  refine ⟨((S.takeN : Int), S.takeE, ()), rfl, ?_⟩
  dsimp only
  have hnF : ∀ j, w.heap.size ≤ j → ¬ F j := fun j hj hf => by have := hFlt j hf; omega
  have hb1 := hb1.only hO8 (hnF r1 (by omega))
  have hb2 := hb2.only hO8 (hnF r2 (by omega))
  have hr1lt : r1 < w8.heap.size := hb1.lt
  have hr2lt : r2 < w8.heap.size := hb2.lt
  have hs8 := (hs.ext he7).only' hO8 hA
  have o8 : Only F w w8 := Only.trans (Only.of_ext he7) hO8 (fun j hj => .inl hj)
  refine splitW_i (fun hq => ?_) (fun hq => ?_)
  · have hq := bne_iff_ne.1 hq
    have e2 : S.put p = (S, 0, S.takeE) := by unfold Spa.put; rw [if_neg (by rw [hE0]; simp), if_pos hq]
    have e3 : S.takeL = S.now := by
      unfold Spa.takeE at hq
      unfold Spa.takeL
      split at hq
      · exact absurd rfl hq
      · rename_i hh; rw [if_neg hh]
    rw [e2]
    rw [e3] at hS8
    exact ⟨rfl, F, ⟨Fd, x, hb, hr, nb, nr, m, hS8⟩, fun k hk => .inl hk, o8⟩
  have hT0 := bne_eq_false_iff_eq.1 hq
  have hTN : S.takeN < S.N := by
    unfold Spa.takeE at hT0
    unfold Spa.takeN
    have := h.ok.now
    split at hT0
    · rename_i hh; rw [if_pos hh]; omega
    · cases hT0
  have hkl : (p.2.1.length : Int) ≤ S.room 0 / 4 := by
    by_cases hh : S.room 0 / 4 < p.2.1.length
    · exact absurd (Or.inl hh) hq3
    · omega
  refine boxF (l := .slc) 1 (A, n, c) hb2 (by rfl) ?_
  dsimp only
  rw [wrap_u64_nat (by omega)]
  refine callW_of (octput_calls (bs := []) (v := n) (k := 2) (Own.nil 5 w8 w8.heap.size) (Nat.le_refl _) (by omega) (by omega) (by omega) (by omega)) ?_
  rintro _ w9 ⟨⟨A1, n1, c1⟩, rfl, ho9, hg9⟩
  refine ⟨(A1, n1, c1), rfl, ?_⟩
  have hg9' : Ext w8 w9 := (Ext.refl w8).grown hg9.grown (fun j hj => by cases hj)
  have hb1 := hb1.ext hg9'
  have hb2 := hb2.ext hg9'
  refine boxF (l := .slc) 1 (A, n, c) hb2 (by rfl) ?_
  dsimp only
  have h8 : w.heap.size ≤ w8.heap.size := o8.2.2.2.1
  have ez : (([] : List UInt8) ++ le 2 n) = le 2 p.2.1.length ++ wordsB (p.2.1.take 0) := by rw [hl]; simp [wordsB]
  rw [ez] at ho9
  refine loopW_i (fun y w' => ∃ (i : Nat) (A2 : Option Addr) (n2 c2 : Nat), i ≤ n ∧ y = ((A2, n2, c2), (i : Int), ()) ∧ Ext w8 w' ∧ Own 5 w' w8.heap.size A2 n2 c2 (bV (le 2 p.2.1.length ++ wordsB (p.2.1.take i)))) (fun y => (n - y.2.1).toNat) ⟨0, A1, n1, c1, by omega, rfl, hg9', ho9⟩ ?_
  rintro _ w10 ⟨i, A2, n2, c2, hi, rfl, he10, ho10⟩
  dsimp only
  have hn2 : n2 = 2 + 4 * i := by
    have := ho10.len
    rw [length_bV, List.length_append, le_length, wordsB_length, List.length_take] at this
    omega
  by_cases hlt : i < n
  · refine splitW_t (decide_eq_true (by omega)) ?_
    refine idx_num (hs8.ext he10) (by omega) (by omega) ?_
    rw [Int.toNat_natCast]
    have e : p.2.1[i]? = some (p.2.1.getD i 0) := by rw [List.getD_eq_getElem?_getD, List.getElem?_eq_getElem (by omega)]; rfl
    have hk := hk32 _ (List.mem_of_getElem? e)
    rw [wrap_u64_nat (by omega)]
    refine callW_of (octput_calls (v := p.2.1.getD i 0) (k := 4) ho10 he10.size (by omega) (by omega) (by omega) (by omega)) ?_
    rintro _ w11 ⟨⟨A3, n3, c3⟩, rfl, ho11, hg11⟩
    refine ⟨(A3, n3, c3), rfl, ?_⟩
    rw [List.append_assoc, ← wordsB_take (by omega)] at ho11
    refine ⟨⟨i + 1, A3, n3, c3, by omega, by rw [wrap_i64 (by omega) (by omega)]; rfl, he10.grown hg11.grown (fun j hj => ho10.row' j hj), ho11⟩, by rw [wrap_i64 (by omega) (by omega)]; omega⟩
  obtain rfl : i = n := by omega
  refine splitW_f (decide_eq_false (by omega)) ?_
  rw [List.take_of_length_le (by omega)] at ho10
  refine draw_i fun w11 he11 _ _ => ?_
  have ho11 := ho10.ext he11
  have he11 := he10.trans he11
  have hb1 : Blk w11 r1 _ _ := (Blk.at_ hb1 (show w11.heap[r1]? = w9.heap[r1]? by rw [he11.block r1 hr1lt, hg9'.block r1 hr1lt]))
  have hb2 : Blk w11 r2 _ _ := (Blk.at_ hb2 (show w11.heap[r2]? = w9.heap[r2]? by rw [he11.block r2 hr2lt, hg9'.block r2 hr2lt]))
  obtain ⟨t, hbx⟩ := (hS8.ext he11).box
  refine ldW_blk (x := some ⟨b, 0, none⟩) hb1 (by rfl) (ptr_i (box0 (l := .ptr) (some ⟨db, 0, none⟩) hbx (by rfl) ?_))
  refine box0 ((p.1.toNat : Nat) : Int) hb2 (by rfl) ?_
  refine ldW_blk (x := some ⟨b, 0, none⟩) hb1 (by rfl) (ptr_i (boxE 1 (S.sup.gen : Int) hbx (by rfl) (by rfl) ?_))
  refine boxF 2 p.2.2 hb2 (by rfl) ?_
  refine conv_str (e := 5) (by kernel_rfl) (by kernel_rfl) (by kernel_rfl) ho11.sl ?_
  refine ⟨fun l hl' q hq' => ?_, ?_⟩
  · simp only [List.mem_cons, List.not_mem_nil, or_false] at hl'
    rcases hl' with rfl | rfl | rfl | rfl | rfl | rfl <;> (simp only [List.mem_cons, List.not_mem_nil, or_false] at hq'; subst hq')
    · exact (hb2.cell 2).trans rfl
    · exact (hbx.cell 1).trans rfl
    · exact (hb1.cell 0).trans rfl
    · exact (hb2.cell 0).trans rfl
    · exact (hbx.cell 0).trans rfl
    · exact (hb1.cell 0).trans rfl
  have hsz1 : (mkB (le 2 p.2.1.length ++ wordsB p.2.1)).size = 2 + 4 * i := by rw [mkB_size, List.length_append, le_length, wordsB_length]; omega
  have hsz1' : (⟨(le 2 p.2.1.length ++ wordsB p.2.1).toArray⟩ : ByteArray).size = 2 + 4 * i := hsz1
  refine guard_i (by rw [hsz1']; show _ ≤ (9223372036854775807 : Int); omega) ?_
  have ecat : (⟨(le 2 p.2.1.length ++ wordsB p.2.1).toArray⟩ : ByteArray) ++ p.2.2 = mkB (pgB p) := B_inj (by rw [B_append, B_mk, B_mkB, pgB, List.append_assoc])
  rw [ecat, show (S.sup.gen : Int) + 1 = ((S.sup.gen + 1 : Nat) : Int) by omega, wrap_u64_nat (by omega)]
  refine callW_of (writeF_calls (hS8.ext he11).dev S.takeN (by omega) (S.frame p) hgen hpen) ?_
  rintro _ w12 ⟨rfl, hst⟩
  refine ⟨_, rfl, ?_⟩
  have hdim2 : (writeF S.dev S.takeN (S.frame p)).1.size = S.dev.size ∧ (writeF S.dev S.takeN (S.frame p)).1.blocks = S.dev.blocks := by
    unfold writeF Dev.write
    split
    · exact ⟨rfl, rfl⟩
    · split
      · exact ⟨rfl, rfl⟩
      · split <;> exact ⟨rfl, rfl⟩
  obtain ⟨F', Fd', hS12, hF12, hO12⟩ := (hS8.ext he11).setDev hst hdim2
  have o11 : Only F w w11 := Only.trans o8 (Only.of_ext (F := F) he11) (fun j hj => .inl hj)
  have fin : StepS w b db F { S with now := S.takeL, dev := (writeF S.dev S.takeN (S.frame p)).1 } w12 := by
    refine ⟨F', ⟨Fd', x, hb, hr, nb, nr, m, hS12⟩, fun k hk => ?_, Only.trans o11 hO12 (fun j hj => .inl hj)⟩
    rcases hF12 k hk with e | e
    · exact .inl e
    · exact .inr (Nat.le_trans o11.2.2.2.1 e)
  refine splitW_i (fun hq => ?_) (fun hq => ?_)
  · have hq := bne_iff_ne.1 hq
    have e2 : S.put p = ({ S with now := S.takeL, dev := (writeF S.dev S.takeN (S.frame p)).1 }, 0, (writeF S.dev S.takeN (S.frame p)).2) := by
      unfold Spa.put; rw [if_neg (by rw [hE0]; simp), if_neg (by rw [hT0]; simp), if_pos hq]
    rw [e2]
    exact ⟨rfl, fin⟩
  · have hq := bne_eq_false_iff_eq.1 hq
    have e2 : S.put p = ({ S with now := S.takeL, dev := (writeF S.dev S.takeN (S.frame p)).1 }, S.takeN, 0) := by
      unfold Spa.put; rw [if_neg (by rw [hE0]; simp), if_neg (by rw [hT0]; simp), if_neg (by rw [hq]; simp)]
    rw [e2]
    exact ⟨rfl, fin⟩
theorem putS_calls (h : SpM w b db S F Fd x hb hr nb nr m) (h01 : S.now.getD 0 0 ≠ 0 ∧ S.now.getD 1 0 ≠ 0) (hgen : S.sup.gen + 1 < 18446744073709551616) (hpen : S.dev.pen.length ≤ 1000000)
    {A : Option Addr} {n c : Nat} (p : Page) (hs : Sli (numE .u32) w A n p.2.1) (hk32 : ∀ k ∈ p.2.1, k < 4294967296) (hA : ∀ a, A = some a → ¬ F a.block) (hds : p.2.2.size ≤ 1000000000) :
    Calls Tryz.prog 13 #[.pointer (some ⟨b, 0, none⟩), .agg (pgV p (A, n, c)).toArray] w (Ret fun v w' => v = .tuple #[.int .u32 ((S.put p).2.1 : Int), .int .i64 (S.put p).2.2] ∧ StepS w b db F (S.put p).1 w') := putS_calls0 h h01 hgen hpen p hs hk32 (fun _ => hA) hds
end Go.Proofs.YtjdmggaeagnolaaGreat.V
/- Counts of references: plain. -/
set_option linter.unusedVariables false
set_option linter.unusedSimpArgs false
namespace Go.Proofs.YtjdmggaeagnolaaGreat.V
open Go Go.Proofs Go.RowKit Crc
abbrev PgF := Nat → Page × Int
def usedC (ps c : List Nat) (n : Nat) : Bool := decide (2 ≤ n) && (!(decide (n ∈ ps)) && decide (0 < c.getD n 0))
theorem usedC_iff {ps c : List Nat} {n : Nat} : usedC ps c n = true ↔ 2 ≤ n ∧ n ∉ ps ∧ 0 < c.getD n 0 := by simp [usedC]
abbrev kidsP (pg : PgF) (n : Nat) : List Nat := (pg n).1.2.1
def refC (ps : List Nat) (pg : PgF) (c : List Nat) (x m : Nat) : Nat := if usedC ps c m then (kidsP pg m).count x else 0
def sumC (N : Nat) (ps : List Nat) (pg : PgF) (c : List Nat) (x : Nat) : Nat := ((List.range N).map (refC ps pg c x)).sum
structure WellC (N : Nat) (ps : List Nat) (pg : PgF) (c R : List Nat) : Prop where
  len : c.length = N
  two : 2 ≤ N
  head : c.getD 0 0 = 1 ∧ c.getD 1 0 = 1
  pgs : ∀ p ∈ ps, 2 ≤ p ∧ p < N ∧ c.getD p 0 = 1
  root : ∀ n ∈ R, usedC ps c n = true
  good : ∀ n, usedC ps c n = true → (pg n).2 = 0 ∧ ∀ k ∈ kidsP pg n, usedC ps c k = true
  rank : ∃ r : Nat → Nat, ∀ n, usedC ps c n = true → ∀ k ∈ kidsP pg n, r k < r n
  sum : ∀ n, 2 ≤ n → n ∉ ps → c.getD n 0 = R.count n + sumC N ps pg c n
theorem sum_one {f g : Nat → Nat} {n : Nat} : ∀ {N : Nat}, (∀ m, m ≠ n → g m = f m) → ((List.range N).map g).sum + (if n < N then f n else 0) = ((List.range N).map f).sum + (if n < N then g n else 0)
  | 0, _ => by simp
  | N + 1, h => by
    have ih := sum_one (f := f) (g := g) (n := n) (N := N) h
    simp only [List.range_succ, List.map_append, List.map_cons, List.map_nil, List.sum_append, List.sum_cons, List.sum_nil, Nat.add_zero]
    by_cases hn : n < N
    · rw [if_pos hn, if_pos hn] at ih
      rw [if_pos (by omega), if_pos (by omega), h N (by omega)]
      omega
    · rw [if_neg hn, if_neg hn] at ih
      by_cases hN : n = N
      · subst hN
        rw [if_pos (by omega), if_pos (by omega)]
        omega
      · rw [if_neg (by omega), if_neg (by omega), h N (by omega)]
        omega
theorem le_sum_mem {x : Nat} : ∀ {l : List Nat}, x ∈ l → x ≤ l.sum
  | a :: r, h => by
    rcases List.mem_cons.1 h with rfl | h
    · simp
    · have := le_sum_mem h
      simp only [List.sum_cons]
      omega
theorem sum_zero {f : Nat → Nat} {N : Nat} (h : ((List.range N).map f).sum = 0) : ∀ m, m < N → f m = 0 := by
  intro m hm
  have : f m ≤ ((List.range N).map f).sum := le_sum_mem (List.mem_map.2 ⟨m, List.mem_range.2 hm, rfl⟩)
  omega
theorem getD_set' (l : List Nat) (i k x : Nat) : (l.set i x).getD k 0 = if i = k ∧ k < l.length then x else l.getD k 0 := by
  rw [List.getD_eq_getElem?_getD, List.getD_eq_getElem?_getD, List.getElem?_set]
  by_cases hik : i = k
  · subst hik
    by_cases hk : i < l.length
    · simp [hk]
    · simp [hk]
  · rw [if_neg hik, if_neg (fun h => hik h.1)]
theorem getD_pos_lt {l : List Nat} {n : Nat} (h : 0 < l.getD n 0) : n < l.length := by
  by_cases hn : n < l.length
  · exact hn
  · rw [List.getD_eq_getElem?_getD, List.getElem?_eq_none (by omega)] at h
    simp at h
section
variable {N : Nat} {ps : List Nat} {pg pg' : PgF} {c R : List Nat}
theorem WellC.lt (h : WellC N ps pg c R) {n : Nat} (hn : usedC ps c n = true) : n < N := by
  have := getD_pos_lt (usedC_iff.1 hn).2.2
  rw [h.len] at this
  exact this
theorem WellC.perm {R' : List Nat} (h : WellC N ps pg c R) (hp : R.Perm R') : WellC N ps pg c R' :=
  ⟨h.len, h.two, h.head, h.pgs, fun n hn => h.root n (hp.mem_iff.2 hn), h.good, h.rank, fun n h1 h2 => by rw [h.sum n h1 h2, hp.count_eq]⟩
/-- Nothing that is not used is referred to. -/
theorem WellC.none (h : WellC N ps pg c R) {n : Nat} (h2 : 2 ≤ n) (hp : n ∉ ps) (h0 : c.getD n 0 = 0) : n ∉ R ∧ ∀ m, usedC ps c m = true → n ∉ kidsP pg m := by
  have hs := h.sum n h2 hp
  refine ⟨fun hn => ?_, fun m hm hn => ?_⟩
  · have := (usedC_iff.1 (h.root n hn)).2.2; omega
  · have := (usedC_iff.1 ((h.good m hm).2 n hn)).2.2; omega
theorem WellC.put {ks : List Nat} {n : Nat} (h : WellC N ps pg c (ks ++ R)) (h2 : 2 ≤ n) (hN : n < N) (hp : n ∉ ps) (h0 : c.getD n 0 = 0) (hn : (pg' n).2 = 0) (hk : kidsP pg' n = ks) (ho : ∀ m, m ≠ n → m < N → pg' m = pg m) :
    WellC N ps pg' (c.set n 1) (n :: R) := by
  obtain ⟨hnR, hnk⟩ := h.none h2 hp h0
  have hl := h.len
  have hu : ∀ m, usedC ps (c.set n 1) m = (usedC ps c m || decide (m = n)) := by
    intro m
    unfold usedC
    rw [getD_set']
    by_cases hm : m = n
    · subst hm
      simp [hl, hN, h2, hp]
    · rw [if_neg (fun e => hm e.1.symm)]
      simp [hm]
  have hun : usedC ps c n = false := by
    cases hq : usedC ps c n with
    | false => rfl
    | true => have := (usedC_iff.1 hq).2.2; omega
  have hne : ∀ m, usedC ps c m = true → m ≠ n := fun m hm e => by rw [e, hun] at hm; cases hm
  obtain ⟨r, hr⟩ := h.rank
  refine ⟨by simpa using hl, h.two, ?_, ?_, ?_, ?_, ⟨fun m => if m = n then (ks.map r).sum + 1 else r m, ?_⟩, ?_⟩
  · rw [getD_set', getD_set', if_neg (by omega), if_neg (by omega)]
    exact h.head
  · intro p hpp
    obtain ⟨g1, g2, g3⟩ := h.pgs p hpp
    refine ⟨g1, g2, ?_⟩
    rw [getD_set', if_neg (fun e : n = p ∧ p < c.length => hp (e.1 ▸ hpp))]
    exact g3
  · intro m hm
    rw [hu]
    rcases List.mem_cons.1 hm with rfl | hm
    · simp
    · rw [h.root m (List.mem_append_right _ hm)]; rfl
  · intro m hm
    rw [hu] at hm
    by_cases hmn : m = n
    · subst hmn
      refine ⟨hn, fun k hk' => ?_⟩
      rw [hk] at hk'
      rw [hu, h.root k (List.mem_append_left _ hk')]
      rfl
    · have hm' : usedC ps c m = true := by simpa [hmn] using hm
      rw [kidsP, ho m hmn (h.lt hm')]
      refine ⟨(h.good m hm').1, fun k hk' => ?_⟩
      rw [hu, (h.good m hm').2 k hk']
      rfl
  · intro m hm k hk'
    rw [hu] at hm
    dsimp only
    by_cases hmn : m = n
    · subst hmn
      rw [hk] at hk'
      rw [if_pos rfl, if_neg (hne k (h.root k (List.mem_append_left _ hk')))]
      have : r k ≤ (ks.map r).sum := le_sum_mem (List.mem_map.2 ⟨k, hk', rfl⟩)
      omega
    · have hm' : usedC ps c m = true := by simpa [hmn] using hm
      rw [kidsP, ho m hmn (h.lt hm')] at hk'
      rw [if_neg hmn, if_neg (hne k ((h.good m hm').2 k hk'))]
      exact hr m hm' k hk'
  · intro x h2x hpx
    have hg : ∀ m, m < N → m ≠ n → refC ps pg' (c.set n 1) x m = refC ps pg c x m := by
      intro m hm hmn
      unfold refC
      rw [hu, kidsP, kidsP, ho m hmn hm]
      simp [hmn]
    have hone := sum_one (f := refC ps pg c x) (g := fun m => if m = n then refC ps pg' (c.set n 1) x n else refC ps pg c x m) (n := n) (N := N) (fun m hm => if_neg hm)
    rw [if_pos hN, if_pos hN] at hone
    have e1 : ((List.range N).map fun m => if m = n then refC ps pg' (c.set n 1) x n else refC ps pg c x m) = (List.range N).map (refC ps pg' (c.set n 1) x) := by
      apply List.map_congr_left
      intro m hm
      split
      · rename_i e; rw [e]
      · rename_i e; exact (hg m (List.mem_range.1 hm) e).symm
    rw [e1] at hone
    have e2 : refC ps pg c x n = 0 := by unfold refC; rw [hun]; rfl
    have e3 : refC ps pg' (c.set n 1) x n = ks.count x := by unfold refC; rw [hu, hk]; simp
    simp only [if_true, e2, e3, Nat.add_zero] at hone
    have hs := h.sum x h2x hpx
    rw [List.count_append] at hs
    show _ = _ + ((List.range N).map (refC ps pg' (c.set n 1) x)).sum
    rw [hone]
    unfold sumC at hs
    rw [getD_set', List.count_cons]
    by_cases hx : x = n
    · subst hx
      rw [if_pos ⟨rfl, by omega⟩]
      simp only [beq_self_eq_true, if_true]
      omega
    · rw [if_neg (fun e => hx e.1.symm), if_neg (by simpa using fun e => hx e.symm)]
      omega
/-- A count is changed, and it stays above 0. -/
theorem WellC.setPos {n v : Nat} {R' : List Nat} (h : WellC N ps pg c R) (hn : usedC ps c n = true) (hv : 0 < v) (hR : ∀ m ∈ R', usedC ps c m = true) (hc : ∀ x, x ≠ n → R'.count x = R.count x) (hv' : v + R.count n = c.getD n 0 + R'.count n) :
    WellC N ps pg (c.set n v) R' := by
  obtain ⟨h2, hp, h0⟩ := usedC_iff.1 hn
  have hl := h.len
  have hN := h.lt hn
  have hu : ∀ m, usedC ps (c.set n v) m = usedC ps c m := by
    intro m
    unfold usedC
    rw [getD_set']
    by_cases hm : m = n
    · subst hm
      rw [if_pos ⟨rfl, by omega⟩]
      rw [decide_eq_true hv, decide_eq_true h0]
    · rw [if_neg (fun e => hm e.1.symm)]
  have hs : ∀ x, sumC N ps pg (c.set n v) x = sumC N ps pg c x := by
    intro x
    unfold sumC
    congr 1
    apply List.map_congr_left
    intro m _
    unfold refC
    rw [hu]
  refine ⟨by simpa using hl, h.two, ?_, ?_, fun m hm => by rw [hu]; exact hR m hm, fun m hm => ?_, ?_, ?_⟩
  · rw [getD_set', getD_set', if_neg (by omega), if_neg (by omega)]
    exact h.head
  · intro p hpp
    obtain ⟨g1, g2, g3⟩ := h.pgs p hpp
    refine ⟨g1, g2, ?_⟩
    rw [getD_set', if_neg (fun e : n = p ∧ p < c.length => hp (e.1 ▸ hpp))]
    exact g3
  · rw [hu] at hm
    exact ⟨(h.good m hm).1, fun k hk => by rw [hu]; exact (h.good m hm).2 k hk⟩
  · obtain ⟨r, hr⟩ := h.rank
    exact ⟨r, fun m hm => hr m (by rw [hu] at hm; exact hm)⟩
  · intro x h2x hpx
    have := h.sum x h2x hpx
    rw [hs, getD_set']
    by_cases hx : x = n
    · subst hx
      rw [if_pos ⟨rfl, by omega⟩]
      omega
    · rw [if_neg (fun e => hx e.1.symm), hc x hx]
      omega
theorem WellC.share {n : Nat} (h : WellC N ps pg c R) (hn : usedC ps c n = true) : WellC N ps pg (c.set n (c.getD n 0 + 1)) (n :: R) :=
  h.setPos hn (by omega) (fun m hm => by rcases List.mem_cons.1 hm with rfl | hm; exact hn; exact h.root m hm) (fun x hx => by rw [List.count_cons, if_neg (by simpa using fun e => hx e.symm)]; rfl) (by rw [List.count_cons_self]; omega)
theorem WellC.dec {n : Nat} (h : WellC N ps pg c (n :: R)) (h1 : c.getD n 0 ≠ 1) : WellC N ps pg (c.set n (c.getD n 0 - 1)) R := by
  have hn := h.root n List.mem_cons_self
  have := (usedC_iff.1 hn).2.2
  exact h.setPos hn (by omega) (fun m hm => h.root m (List.mem_cons_of_mem _ hm)) (fun x hx => by rw [List.count_cons, if_neg (by simpa using fun e => hx e.symm)]; rfl) (by rw [List.count_cons_self]; omega)
theorem WellC.last {n : Nat} (h : WellC N ps pg c (n :: R)) (h1 : c.getD n 0 = 1) : WellC N ps pg (c.set n 0) (kidsP pg n ++ R) := by
  have hn := h.root n List.mem_cons_self
  obtain ⟨h2, hp, h0⟩ := usedC_iff.1 hn
  have hl := h.len
  have hN := h.lt hn
  have hsn := h.sum n h2 hp
  rw [h1, List.count_cons_self] at hsn
  have hcR : R.count n = 0 := by omega
  have hz : ∀ m, m < N → refC ps pg c n m = 0 := sum_zero (by unfold sumC at hsn; omega)
  have hnR : n ∉ R := List.count_eq_zero.1 hcR
  have hnk : ∀ m, usedC ps c m = true → n ∉ kidsP pg m := by
    intro m hm
    have := hz m (h.lt hm)
    unfold refC at this
    rw [if_pos hm] at this
    exact List.count_eq_zero.1 this
  have hu : ∀ m, usedC ps (c.set n 0) m = (usedC ps c m && !(decide (m = n))) := by
    intro m
    unfold usedC
    rw [getD_set']
    by_cases hm : m = n
    · subst hm
      rw [if_pos ⟨rfl, by omega⟩]
      simp
    · rw [if_neg (fun e => hm e.1.symm)]
      simp [hm]
  have hu2 : ∀ {m}, usedC ps c m = true → m ≠ n → usedC ps (c.set n 0) m = true := fun hm hmn => by rw [hu, hm]; simp [hmn]
  refine ⟨by simpa using hl, h.two, ?_, ?_, ?_, fun m hm => ?_, ?_, ?_⟩
  · rw [getD_set', getD_set', if_neg (by omega), if_neg (by omega)]
    exact h.head
  · intro p hpp
    obtain ⟨g1, g2, g3⟩ := h.pgs p hpp
    refine ⟨g1, g2, ?_⟩
    rw [getD_set', if_neg (fun e : n = p ∧ p < c.length => hp (e.1 ▸ hpp))]
    exact g3
  · intro m hm
    rcases List.mem_append.1 hm with hm | hm
    · exact hu2 ((h.good n hn).2 m hm) (fun e => hnk n hn (e ▸ hm))
    · exact hu2 (h.root m (List.mem_cons_of_mem _ hm)) (fun e => hnR (e ▸ hm))
  · rw [hu] at hm
    have hm' : usedC ps c m = true := by simp at hm; exact hm.1
    exact ⟨(h.good m hm').1, fun k hk => hu2 ((h.good m hm').2 k hk) (fun e => hnk m hm' (e ▸ hk))⟩
  · obtain ⟨r, hr⟩ := h.rank
    exact ⟨r, fun m hm => hr m (by rw [hu] at hm; simp at hm; exact hm.1)⟩
  · intro x h2x hpx
    have hone := sum_one (f := refC ps pg c x) (g := refC ps pg (c.set n 0) x) (n := n) (N := N) (fun m hm => by unfold refC; rw [hu]; simp [hm])
    rw [if_pos hN, if_pos hN] at hone
    have e2 : refC ps pg c x n = (kidsP pg n).count x := by unfold refC; rw [if_pos hn]
    have e3 : refC ps pg (c.set n 0) x n = 0 := by unfold refC; rw [hu]; simp
    rw [e2, e3] at hone
    have hs := h.sum x h2x hpx
    unfold sumC at hs ⊢
    rw [getD_set', List.count_append]
    by_cases hx : x = n
    · subst hx
      rw [if_pos ⟨rfl, by omega⟩]
      have : (kidsP pg x).count x = 0 := List.count_eq_zero.2 (hnk x hn)
      rw [List.count_cons_self] at hs
      omega
    · rw [if_neg (fun e => hx e.1.symm)]
      rw [List.count_cons, if_neg (by simpa using fun e => hx e.symm)] at hs
      omega
theorem WellC.pgs_eq (h : WellC N ps pg c R) (ho : ∀ m, usedC ps c m = true → pg' m = pg m) : WellC N ps pg' c R := by
  have hs : ∀ x, sumC N ps pg' c x = sumC N ps pg c x := by
    intro x
    unfold sumC
    congr 1
    apply List.map_congr_left
    intro m _
    unfold refC
    by_cases hm : usedC ps c m = true
    · rw [if_pos hm, if_pos hm, kidsP, ho m hm]
    · rw [if_neg hm, if_neg hm]
  refine ⟨h.len, h.two, h.head, h.pgs, h.root, fun n hn => ?_, ?_, fun n h2 hp => by rw [hs]; exact h.sum n h2 hp⟩
  · rw [kidsP, ho n hn]
    exact h.good n hn
  · obtain ⟨r, hr⟩ := h.rank
    exact ⟨r, fun n hn k hk => hr n hn k (by rw [kidsP, ho n hn] at hk; exact hk)⟩
end
/-! ### Drop -/
inductive Drp (ask : Nat → Bool) (pg : PgF) : List Nat → List Nat → List Nat → Int → Prop
  | nil (c : List Nat) : Drp ask pg c [] c 0
  | bad {c st : List Nat} {n : Nat} : c.getD n 0 ≠ 1 → atE c n ≠ 0 → Drp ask pg c (n :: st) c (atE c n)
  | dec {c c' st : List Nat} {n : Nat} {e : Int} : c.getD n 0 ≠ 1 → atE c n = 0 → Drp ask pg (subL c n) st c' e → Drp ask pg c (n :: st) c' e
  | noask {c st : List Nat} {n : Nat} : c.getD n 0 = 1 → ask n = false → Drp ask pg c (n :: st) c 2
  | err {c st : List Nat} {n : Nat} {e : Int} : c.getD n 0 = 1 → ask n = true → (pg n).2 = e → e ≠ 0 → Drp ask pg c (n :: st) c e
  | last {c c' st : List Nat} {n : Nat} {e : Int} : c.getD n 0 = 1 → ask n = true → (pg n).2 = 0 → Drp ask pg (subL c n) (kidsP pg n ++ st) c' e → Drp ask pg c (n :: st) c' e
theorem sum_set (l : List Nat) : ∀ (i x : Nat), i < l.length → (l.set i x).sum + l.getD i 0 = l.sum + x := by
  induction l with
  | nil => intro i x h; simp at h
  | cons a r ih =>
    intro i x h
    cases i with
    | zero => simp [List.sum_cons]; omega
    | succ i =>
      have := ih i x (by simpa using h)
      simp only [List.set_cons_succ, List.sum_cons, List.getD_cons_succ]
      omega
theorem atE_used {N : Nat} {ps : List Nat} {pg : PgF} {c R : List Nat} (h : WellC N ps pg c R) {n : Nat} (hn : usedC ps c n = true) : atE c n = 0 := by
  obtain ⟨h2, hp, h0⟩ := usedC_iff.1 hn
  have := h.lt hn
  have := h.len
  unfold atE
  rw [if_neg (by omega), if_neg (by omega)]
theorem subL_used {N : Nat} {ps : List Nat} {pg : PgF} {c R : List Nat} (h : WellC N ps pg c R) {n : Nat} (hn : usedC ps c n = true) : subL c n = c.set n (c.getD n 0 - 1) := by
  unfold subL
  rw [if_pos (atE_used h hn)]
theorem WellC.drop {N : Nat} {ps : List Nat} {pg : PgF} {ask : Nat → Bool} (hask : ∀ n, 2 ≤ n → n < N → n ∉ ps → ask n = true) : ∀ (z : Nat) {c R : List Nat} (st : List Nat), c.sum ≤ z → WellC N ps pg c (st ++ R) → ∃ c', Drp ask pg c st c' 0 ∧ WellC N ps pg c' R ∧ c'.length = c.length ∧ ∀ n, c'.getD n 0 ≤ c.getD n 0 := by
  intro z
  induction z with
  | zero =>
    intro c R st hz h
    have h0 := h.head.1
    have hl := h.len
    have h2 := h.two
    have := sum_set c 0 0 (by omega)
    omega
  | succ z ih =>
    intro c R st hz h
    cases st with
    | nil => exact ⟨c, .nil c, h, rfl, fun _ => Nat.le_refl _⟩
    | cons n st =>
      have hn := h.root n (by simp)
      obtain ⟨h2, hp, h0⟩ := usedC_iff.1 hn
      have hN := h.lt hn
      have hl := h.len
      have hsum := sum_set c n (c.getD n 0 - 1) (by omega)
      have hle : ∀ v, v ≤ c.getD n 0 → ∀ k, (c.set n v).getD k 0 ≤ c.getD k 0 := by
        intro v hv k
        rw [getD_set']
        split
        · rename_i e; rw [← e.1]; exact hv
        · exact Nat.le_refl _
      by_cases h1 : c.getD n 0 = 1
      · have hw : WellC N ps pg (c.set n 0) (kidsP pg n ++ st ++ R) := by
          rw [List.append_assoc]
          exact WellC.last (R := st ++ R) h h1
        have es : subL c n = c.set n 0 := by rw [subL_used h hn, h1]
        rw [h1] at hsum
        obtain ⟨c', g1, g2, g3, g4⟩ := ih _ (by simp only [Nat.sub_self] at hsum; omega) hw
        exact ⟨c', .last h1 (hask n h2 hN hp) (h.good n hn).1 (by rw [es]; exact g1), g2, by rw [g3]; simp, fun k => Nat.le_trans (g4 k) (hle 0 (by omega) k)⟩
      · have hw : WellC N ps pg (c.set n (c.getD n 0 - 1)) (st ++ R) := WellC.dec h h1
        obtain ⟨c', g1, g2, g3, g4⟩ := ih _ (by omega) hw
        exact ⟨c', .dec h1 (atE_used h hn) (by rw [subL_used h hn]; exact g1), g2, by rw [g3]; simp, fun k => Nat.le_trans (g4 k) (hle _ (by omega) k)⟩
/-! ### Walk -/
inductive Vis (get : PgF) : Nat → List Bool → List Nat → List Nat → List Bool → Int → Prop
  | nil (d : Nat) (s : List Bool) : Vis get d s [] [] s 0
  | zero {d : Nat} {s s' : List Bool} {l ys : List Nat} {e : Int} : Vis get d s l ys s' e → Vis get d s (0 :: l) ys s' e
  | err {d : Nat} {s : List Bool} {l : List Nat} {n : Nat} {e : Int} : n ≠ 0 → (get n).2 = e → e ≠ 0 → Vis get d s (n :: l) [] s e
  | seen {d : Nat} {s s' : List Bool} {l ys : List Nat} {n : Nat} {e : Int} : n ≠ 0 → (get n).2 = 0 → s.getD n false = true → Vis get d s l ys s' e → Vis get d s (n :: l) (n :: ys) s' e
  | new {d : Nat} {s s1 s2 : List Bool} {l ys1 ys2 : List Nat} {n : Nat} {e : Int} : n ≠ 0 → (get n).2 = 0 → s.getD n false = false → Vis get d (s.set n true) (kidsP get n) ys1 s1 0 → Vis get (d + 1) s1 l ys2 s2 e → Vis get (d + 1) s (n :: l) (n :: (ys1 ++ ys2)) s2 e
  | newE {d : Nat} {s s1 : List Bool} {l ys1 : List Nat} {n : Nat} {e : Int} : n ≠ 0 → (get n).2 = 0 → s.getD n false = false → Vis get d (s.set n true) (kidsP get n) ys1 s1 e → e ≠ 0 → Vis get (d + 1) s (n :: l) (n :: ys1) s1 e
theorem Vis.len {get : PgF} {d : Nat} {s s' : List Bool} {l ys : List Nat} {e : Int} (h : Vis get d s l ys s' e) : s'.length = s.length := by
  induction h with
  | nil => rfl
  | zero _ ih => exact ih
  | err => rfl
  | seen _ _ _ _ ih => exact ih
  | new _ _ _ _ _ ih1 ih2 => rw [ih2, ih1]; simp
  | newE _ _ _ _ _ ih1 => rw [ih1]; simp
theorem Vis.inv {get : PgF} {d : Nat} {s s' : List Bool} {l ys : List Nat} {n : Nat} {e : Int} (h : Vis get d s (n :: l) ys s' e) (hn : n ≠ 0) :
    ((get n).2 = e ∧ e ≠ 0 ∧ ys = [] ∧ s' = s) ∨
    ((get n).2 = 0 ∧ s.getD n false = true ∧ ∃ ys', ys = n :: ys' ∧ Vis get d s l ys' s' e) ∨
    ((get n).2 = 0 ∧ s.getD n false = false ∧ ∃ d1 ys1 s1 e1, d1 < d ∧ Vis get d1 (s.set n true) (kidsP get n) ys1 s1 e1 ∧ ((e1 = 0 ∧ ∃ ys2, ys = n :: (ys1 ++ ys2) ∧ Vis get d s1 l ys2 s' e) ∨ (e1 ≠ 0 ∧ e1 = e ∧ ys = n :: ys1 ∧ s' = s1))) := by
  cases h with
  | zero => exact absurd rfl hn
  | err _ h2 h3 => exact .inl ⟨h2, h3, rfl, rfl⟩
  | seen _ h2 h3 h4 => exact .inr (.inl ⟨h2, h3, _, rfl, h4⟩)
  | new _ h2 h3 h4 h5 => exact .inr (.inr ⟨h2, h3, _, _, _, 0, Nat.lt_succ_self _, h4, .inl ⟨rfl, _, rfl, h5⟩⟩)
  | newE _ h2 h3 h4 h5 => exact .inr (.inr ⟨h2, h3, _, _, _, _, Nat.lt_succ_self _, h4, .inr ⟨h5, rfl, rfl, rfl⟩⟩)
end Go.Proofs.YtjdmggaeagnolaaGreat.V
/- Contracts of the package space: Share, Count, Drop. -/
set_option linter.unusedVariables false
set_option linter.unusedSimpArgs false
namespace Go.Proofs.YtjdmggaeagnolaaGreat.V
open Go Go.Proofs Go.RowKit Crc
variable {w w' : World} {b db : Nat} {S : Spa} {F Fd : Nat → Prop} {x : SLC} {hb hr nb nr : Nat} {m : MkL}
theorem SpM.nrF (h : SpM w b db S F Fd x hb hr nb nr m) : F nr := (h.own nr).2 (.inr (by simp [spOwn]))
theorem SpM.nrOnly (h : SpM w b db S F Fd x hb hr nb nr m) {w0 : World} (hg : w0.grownBy w' (some nr)) : Only F w0 w' := Only.of_grown hg (fun j hj => .inl (by injection hj with hj; subst hj; exact h.nrF))
theorem count_calls (h : SpM w b db S F Fd x hb hr nb nr m) {n : Nat} (hn : n < 4294967296) :
    Calls Tryz.prog 20 #[.pointer (some ⟨b, 0, none⟩), .int .u32 (n : Int)] w (Ret fun v w' => v = .int .i64 ((S.now.getD n 0 : Nat) : Int) ∧ w' = w) := by
  apply calls20
  unfold S20
  obtain ⟨t, hbx⟩ := h.box
  refine splitW_f (by rfl) (ptr_i (boxE (l := .ptr) 8 (some ⟨nb, 0, none⟩) hbx (by rfl) (by rfl) ?_))
  refine callW_of (nowget_calls h n hn) ?_
  rintro _ w1 ⟨rfl, rfl⟩
  exact ⟨_, rfl, rfl, rfl⟩
def Spa.share (S : Spa) (n : Nat) : Spa × Int := if S.asked n = false then (S, 2) else ({ S with now := addL S.now n }, addE S.now n)
theorem share_calls (h : SpM w b db S F Fd x hb hr nb nr m) {n : Nat} (hn : n < 4294967296) :
    Calls Tryz.prog 25 #[.pointer (some ⟨b, 0, none⟩), .int .u32 (n : Int)] w (Ret fun v w' => v = .int .i64 (S.share n).2 ∧ SpM w' b db (S.share n).1 F Fd x hb hr nb nr m ∧ Only F w w') := by
  apply calls25
  unfold S25 Spa.share
  refine splitW_f (by rfl) (callW_of (asked_calls h hn) ?_)
  rintro _ w1 ⟨rfl, hw1⟩
  refine ⟨_, rfl, ?_⟩
  rw [hw1]
  refine splitW_i (fun hq => ?_) (fun hq => ?_)
  · have hq : S.asked n = false := by simpa using hq
    rw [if_pos hq]
    exact ⟨rfl, h, Only.refl F w⟩
  have hq : S.asked n = true := by simpa using hq
  rw [if_neg (by rw [hq]; simp)]
  obtain ⟨t, hbx⟩ := h.box
  refine ptr_i (boxE (l := .ptr) 8 (some ⟨nb, 0, none⟩) hbx (by rfl) (by rfl) ?_)
  obtain ⟨q, c⟩ := h.nowC
  refine callW_of (add_calls c n hn) ?_
  rintro _ w2 ⟨rfl, hc, hg⟩
  exact ⟨_, rfl, rfl, h.setNow hg hc (by unfold addL; split <;> simp), h.nrOnly hg⟩
/-! ### Reverse -/
theorem idx_setN {k : IntKind} {w : World} {e : TypeId} {B : Nat} {A : Option Addr} {n c : Nat} {xs : List Nat} {i : Int} {v : Nat} {K : WP} (h : Owni (numE k) e w B A n c xs) (h0 : 0 ≤ i) (h1 : i < (n : Int))
    (hK : ∀ w', Owni (numE k) e w' B A n c (xs.set i.toNat v) → w.grownBy w' (orow A) → K w') :
    (guardW (0 ≤ i ∧ i < ((n : Nat) : Int)) <| ptrW A fun p => stW (p.add (Int.toNat i * 1)) (.int k (v : Int)) K) w := by
  refine idx_set (e := e) (B := B) (c := c) (vs := (numE k).flat xs) h h0 h1 fun w' ho hg => hK w' ?_ (by rw [orow_eq] at hg; exact hg)
  rw [numE_set] at ho
  exact ho
theorem rev_calls {w : World} {B : Nat} {A : Option Addr} {n c : Nat} {xs : List Nat} (h : Owni (numE .u32) 35 w B A n c xs) (hn : n ≤ 1000000) :
    Calls Tryz.prog 61 #[.slice A n c] w (Ret fun v w' => v = .tuple #[] ∧ Owni (numE .u32) 35 w' B A n c xs.reverse ∧ w.grownBy w' (orow A)) := by
  apply calls61
  unfold S61
  have hl := h.len
  rw [wrap_i64 (by omega) (by omega)]
  refine loopW_i (fun y w' => ∃ (i : Nat) (ys : List Nat), 2 * i ≤ n + 1 ∧ y = ((i : Int), (n : Int) - 1 - i, ()) ∧ ys.length = n ∧ (∀ k, k < n → ys.getD k 0 = if k < i ∨ n ≤ k + i then xs.getD (n - 1 - k) 0 else xs.getD k 0) ∧ Owni (numE .u32) 35 w' B A n c ys ∧ w.grownBy w' (orow A)) (fun y => (n - y.1).toNat)
    ⟨0, xs, by omega, by simp, hl, fun k hk => by rw [if_neg (by omega)], h, grownBy_refl _ _⟩ ?_
  rintro _ w1 ⟨i, ys, hi, rfl, hyl, hys, ho, hg⟩
  dsimp only
  by_cases hlt : (i : Int) < (n : Int) - 1 - i
  · refine splitW_t (decide_eq_true hlt) ?_
    refine draw_i fun w2 he2 _ _ => ?_
    have ho := ho.ext he2
    have hg := grownBy_tr hg (grownBy_of_ext he2 none) (fun j hj => by cases hj)
    refine idx_num ho.sl (by omega) (by omega) ?_
    refine idx_num ho.sl (by omega) (by omega) ?_
    have ej : ((n : Int) - 1 - i).toNat = n - 1 - i := by omega
    refine idx_setN ho (by omega) (by omega) ?_
    intro w3 ho3 hg3
    refine idx_setN ho3 (by omega) (by omega) ?_
    intro w4 ho4 hg4
    rw [ej, Int.toNat_natCast] at ho4
    refine ⟨⟨i + 1, (ys.set i (ys.getD (n - 1 - i) 0)).set (n - 1 - i) (ys.getD i 0), by omega, ?_, by simp [hyl], fun k hk => ?_, ho4, grownBy_tr (grownBy_tr hg hg3 (fun j hj => .inl hj)) hg4 (fun j hj => .inl hj)⟩, ?_⟩
    · rw [show IntKind.wrap .i64 ((i : Int) + 1) = ((i + 1 : Nat) : Int) from by rw [wrap_i64 (by omega) (by omega)]; rfl, show IntKind.wrap .i64 ((n : Int) - 1 - i - 1) = (n : Int) - 1 - ((i + 1 : Nat) : Int) from by rw [wrap_i64 (by omega) (by omega)]; omega]
    · rw [getD_setN, getD_setN]
      simp only [List.length_set, hyl]
      have h1 := hys i (by omega)
      have h2 := hys (n - 1 - i) (by omega)
      rw [if_neg (by omega)] at h1 h2
      by_cases e1 : n - 1 - i = k
      · subst e1
        rw [if_pos ⟨rfl, hk⟩, if_pos (by omega), h1]
        congr 1
        omega
      · rw [if_neg (fun e => e1 e.1)]
        by_cases e2 : i = k
        · subst e2
          rw [if_pos ⟨rfl, hk⟩, if_pos (by omega), h2]
        · rw [if_neg (fun e => e2 e.1), hys k hk]
          by_cases e3 : k < i ∨ n ≤ k + i
          · rw [if_pos e3, if_pos (by omega)]
          · rw [if_neg e3, if_neg (by omega)]
    · rw [wrap_i64 (by omega) (by omega)]; omega
  · refine splitW_f (decide_eq_false hlt) ⟨rfl, ?_, hg⟩
    have e : ys = xs.reverse := by
      refine list_ext_getD (by simp [hyl, hl]) (fun k => ?_)
      by_cases hk : k < n
      · rw [hys k hk, List.getD_eq_getElem?_getD (l := xs.reverse), List.getElem?_reverse (by omega), hl, ← List.getD_eq_getElem?_getD]
        split
        · rfl
        · congr 1; omega
      · rw [List.getD_eq_getElem?_getD, List.getD_eq_getElem?_getD, List.getElem?_eq_none (by omega), List.getElem?_eq_none (by simp; omega)]
    rw [← e]
    exact ho
/-! ### Drop -/
theorem Owni.trunc {w : World} {e : TypeId} {B : Nat} {A : Option Addr} {n c : Nat} {ys : List Nat} {k : Nat} (h : Owni (numE .u32) e w B A n c (ys ++ [k])) : cutAddr A 0 c 1 = A ∧ n = ys.length + 1 ∧ Owni (numE .u32) e w B A ys.length c ys := by
  have hl := h.len
  rw [List.length_append, List.length_singleton] at hl
  have hle := h.le
  obtain ⟨h1, h2⟩ := h
  rcases h2 with ⟨_, hn⟩ | ⟨g, cap, cur, hv, hB, hg, hnc, hcm, hcs, ht⟩
  · omega
  · injection hv with hA hn hc
    subst hA hc
    refine ⟨?_, hl.symm, ⟨by rw [(numE .u32).flat_length], .inr ⟨g, c, cur, rfl, hB, hg, by omega, hcm, hcs, ?_⟩⟩⟩
    · unfold cutAddr
      split
      · rename_i h0; omega
      · simp [Addr.add]
    · have e1 : cur.toList.take (ys.length * (numE .u32).k) = ((numE .u32).flat (ys ++ [k])).take (ys.length * (numE .u32).k) := by
        rw [← ht, List.take_take, Nat.min_eq_left (Nat.mul_le_mul_right _ (by omega))]
      have e2 := (numE .u32).flat_length ys
      rw [e1, (numE .u32).flat_append, List.take_append_of_le_length (by omega), List.take_of_length_le (by omega)]
theorem Drp.inv {ask : Nat → Bool} {pg : PgF} {c st c' : List Nat} {n : Nat} {e : Int} (h : Drp ask pg c (n :: st) c' e) :
    (c.getD n 0 ≠ 1 ∧ atE c n ≠ 0 ∧ c' = c ∧ e = atE c n) ∨ (c.getD n 0 ≠ 1 ∧ atE c n = 0 ∧ Drp ask pg (subL c n) st c' e) ∨ (c.getD n 0 = 1 ∧ ask n = false ∧ c' = c ∧ e = 2) ∨
    (c.getD n 0 = 1 ∧ ask n = true ∧ (pg n).2 = e ∧ e ≠ 0 ∧ c' = c) ∨ (c.getD n 0 = 1 ∧ ask n = true ∧ (pg n).2 = 0 ∧ Drp ask pg (subL c n) (kidsP pg n ++ st) c' e) := by
  cases h with
  | bad h1 h2 => exact .inl ⟨h1, h2, rfl, rfl⟩
  | dec h1 h2 h3 => exact .inr (.inl ⟨h1, h2, h3⟩)
  | noask h1 h2 => exact .inr (.inr (.inl ⟨h1, h2, rfl, rfl⟩))
  | err h1 h2 h3 h4 => exact .inr (.inr (.inr (.inl ⟨h1, h2, h3, h4, rfl⟩)))
  | last h1 h2 h3 h4 => exact .inr (.inr (.inr (.inr ⟨h1, h2, h3, h4⟩)))
theorem pageR_kids {N : Nat} {bs : List UInt8} : (pageR N bs).1.2.1.length ≤ 1024 ∧ ∀ k ∈ (pageR N bs).1.2.1, 2 ≤ k ∧ k < N := by
  unfold pageR
  split
  · rename_i hc
    obtain ⟨h0, h1, h2, h3, h4⟩ := hc
    refine ⟨?_, h4⟩
    dsimp only
    have hdl : (B (getR bs).1.2.2).length ≤ 4096 := by
      have := putR_ok (size := (bs.length : Int)) (f := frameB bs) (by rw [(getR_ok h0).2])
      rw [(getR_ok h0).1]
      omega
    unfold kidsOf
    rw [wordsOf_length]
    omega
  · simp [page0]
theorem subL_sum {c : List Nat} {n : Nat} (h : atE c n = 0) : (subL c n).sum + 1 = c.sum := by
  rcases atE_cases c n with ⟨_, h2, h3, h4⟩ | h2 | h2
  · unfold subL
    rw [if_pos h]
    have := sum_set c n (c.getD n 0 - 1) h3
    omega
  · omega
  · omega
theorem list_split {α : Type} (l : List α) : l = [] ∨ ∃ (r : List α) (a : α), l = r ++ [a] := by
  rcases List.eq_nil_or_concat l with h | ⟨r, a, h⟩
  · exact .inl h
  · exact .inr ⟨r, a, by rw [h, List.concat_eq_append]⟩
theorem sum_le {l : List Nat} {B : Nat} (h : ∀ n ∈ l, n ≤ B) : l.sum ≤ l.length * B := by
  induction l with
  | nil => simp
  | cons a r ih =>
    have h1 := ih (fun n hn => h n (List.mem_cons_of_mem _ hn))
    have h2 := h a List.mem_cons_self
    rw [List.sum_cons, List.length_cons, Nat.add_mul]
    omega
theorem drop_calls (h : SpM w b db S F Fd x hb hr nb nr m) {n : Nat} (hn : n < 4294967296) {c' : List Nat} {e : Int} (hD : S.asked n = true → Drp S.asked S.page S.now [n] c' e) (hno : S.asked n = false → c' = S.now ∧ e = 2) :
    Calls Tryz.prog 16 #[.pointer (some ⟨b, 0, none⟩), .int .u32 (n : Int)] w (Ret fun v w' => v = .int .i64 e ∧ SpM w' b db { S with now := c' } F Fd x hb hr nb nr m ∧ Only F w w') := by
  have hFlt := h.lt
  have hdim := h.dims
  have hN := hdim.n
  have hnrlt := hFlt nr h.nrF
  have hsum0 : S.now.sum ≤ 4096 * 65535 := by
    obtain ⟨q, hc⟩ := h.nowC
    have := sum_le (l := S.now) (B := 65535) (fun a ha => by have := hc.fits a ha; omega)
    have hl := hc.len
    exact Nat.le_trans this (Nat.mul_le_mul_right _ hl.2)
  apply calls16
  unfold S16
  refine splitW_f (by rfl) (callW_of (asked_calls h hn) ?_)
  rintro _ w1 ⟨rfl, hw1⟩
  refine ⟨_, rfl, ?_⟩
  rw [hw1]
  refine splitW_i (fun hq => ?_) (fun hq => ?_)
  · have hq : S.asked n = false := by simpa using hq
    obtain ⟨rfl, rfl⟩ := hno hq
    exact ⟨rfl, h, Only.refl F w⟩
  have hq : S.asked n = true := by simpa using hq
  have hD := hD hq
  refine new_i fun r2 w2 hb2 he2 hr2 hz2 => ?_
  have ho2 : Owni (numE .u32) 35 w2 r2 (some ⟨r2, 0, none⟩) 1 1 [n] := owni_of_blk (by exact hb2) rfl (by omega) (Nat.le_refl _)
  refine loopW_x (fun y k w' => ∃ (cc xs : List Nat) (A : Option Addr) (cp : Nat), y = ((A, xs.length, cp), ()) ∧ k = cc.sum ∧ Drp S.asked S.page cc xs.reverse c' e ∧ SpM w' b db { S with now := cc } F Fd x hb hr nb nr m ∧ Owni (numE .u32) 35 w' r2 A xs.length cp xs ∧ (∀ a ∈ xs, a < 4294967296) ∧ Only F w w' ∧ xs.length + 1100 * cc.sum ≤ 1 + 1100 * S.now.sum)
    S.now.sum ⟨S.now, [n], _, 1, rfl, rfl, hD, h.ext he2, ho2, by simpa using hn, Only.of_ext he2, by simp⟩ ?_
  rintro _ k w3 J ⟨cc, xs, A, cp, rfl, rfl, hD, hS, ho, h32, hO, hbound⟩ hJ
  dsimp only
  rcases list_split xs with rfl | ⟨ys, a, rfl⟩
  · refine splitW_f (decide_eq_false (by simp)) ?_
    rw [List.reverse_nil] at hD
    cases hD
    exact ⟨rfl, hS, hO⟩
  have hle := ho.le
  obtain ⟨ecut, hyl, hoy⟩ := ho.trunc
  rw [ecut]
  rw [hyl] at ho hle ⊢
  rw [hyl] at hbound
  refine splitW_t (decide_eq_true (by omega)) ?_
  have ew : IntKind.wrap .i64 (((ys.length + 1 : Nat) : Int) - 1) = (ys.length : Int) := by rw [wrap_i64 (by omega) (by omega)]; omega
  rw [ew]
  refine idx_num ho.sl (by omega) (by omega) ?_
  rw [Int.toNat_natCast]
  have ea : (ys ++ [a]).getD ys.length 0 = a := by simp
  rw [ea]
  have ha := h32 a (by simp)
  refine guard_i ⟨by omega, by omega⟩ ?_
  obtain ⟨t, hbx⟩ := hS.box
  refine ptr_i (boxE (l := .ptr) 8 (some ⟨nb, 0, none⟩) hbx (by rfl) (by rfl) ?_)
  refine callW_of (nowget_calls hS a ha) ?_
  rintro _ w4 ⟨rfl, hw4⟩
  refine ⟨_, rfl, ?_⟩
  rw [hw4]
  dsimp only
  rw [List.reverse_append, List.reverse_singleton, List.singleton_append] at hD
  have hr2F : ∀ j, orow A = some j → w.heap.size ≤ j := fun j hj => by have := ho.row j hj; omega
  have hnrA : ∀ j, some nr = some j → orow A ≠ some j := fun j hj e => by injection hj with hj; subst hj; have := hr2F _ e; omega
  have hO' : ∀ {w5 : World}, w3.grownBy w5 (some nr) → Only F w w5 := fun hg => Only.trans hO (h.nrOnly hg) (fun j hj => .inl hj)
  rcases hD.inv with ⟨d1, d2, d3, d4⟩ | ⟨d1, d2, d3⟩ | ⟨d1, d2, d3, d4⟩ | ⟨d1, d2, d3, d4, d5⟩ | ⟨d1, d2, d3, d4⟩
  · refine splitW_t (bne_iff_ne.2 (by omega)) ?_
    refine ptr_i (boxE (l := .ptr) 8 (some ⟨nb, 0, none⟩) hbx (by rfl) (by rfl) ?_)
    refine callW_of (sub_now hS ha) ?_
    rintro _ w5 ⟨rfl, hS5, hg5⟩
    refine ⟨((subN cc a : Int), atE cc a, ()), rfl, splitW_t (bne_iff_ne.2 d2) ?_⟩
    have es : subL cc a = cc := by unfold subL; rw [if_neg d2]
    dsimp only at hS5
    rw [es] at hS5
    subst d3 d4
    exact ⟨rfl, hS5, hO' hg5⟩
  · refine splitW_t (bne_iff_ne.2 (by omega)) ?_
    refine ptr_i (boxE (l := .ptr) 8 (some ⟨nb, 0, none⟩) hbx (by rfl) (by rfl) ?_)
    refine callW_of (sub_now hS ha) ?_
    rintro _ w5 ⟨rfl, hS5, hg5⟩
    refine ⟨((subN cc a : Int), atE cc a, ()), rfl, ?_⟩
    dsimp only
    rw [d2]
    refine splitW_f (by rfl) ?_
    have hsum := subL_sum d2
    exact hJ _ _ _ (by omega : (subL cc a).sum < cc.sum) ⟨subL cc a, ys, A, cp, rfl, rfl, d3, hS5, hoy.grown hg5 hnrA, fun k hk => h32 k (List.mem_append_left _ hk), hO' hg5, by omega⟩
  all_goals
    refine splitW_f (bne_eq_false_iff_eq.2 (by omega)) ?_
    refine callW_of (getS_calls hS ha) ?_
    rintro _ w5 ⟨y, rfl, hok, he5⟩
    refine ⟨(pgT (Spa.get { S with now := cc } a).1 y, (Spa.get { S with now := cc } a).2, ()), rfl, ?_⟩
  · have eg : Spa.get { S with now := cc } a = (page0, 2) := if_pos d2
    rw [eg] at hok ⊢
    refine box_i (vs := pgV page0 y) (by rfl) (pgV_one _ _) (fun r6 w6 hb6 he6 hr6 => ?_) (by rfl)
    refine splitW_t (by rfl) ?_
    subst d3 d4
    exact ⟨rfl, (hS.ext he5).ext he6, Only.trans (Only.trans hO (Only.of_ext (F := F) he5) (fun j hj => .inl hj)) (Only.of_ext (F := F) he6) (fun j hj => .inl hj)⟩
  · have eg : Spa.get { S with now := cc } a = S.page a := by
      unfold Spa.get
      rw [if_neg (by rw [show Spa.asked { S with now := cc } a = S.asked a from rfl, d2]; simp), if_neg (by dsimp only; omega)]
      rfl
    rw [eg] at hok ⊢
    refine box_i (vs := pgV (S.page a).1 y) (by rfl) (pgV_one _ _) (fun r6 w6 hb6 he6 hr6 => ?_) (by rfl)
    refine splitW_t (bne_iff_ne.2 (by dsimp only; rw [d3]; exact d4)) ?_
    subst d5
    refine ⟨by rw [← d3], (hS.ext he5).ext he6, Only.trans (Only.trans hO (Only.of_ext (F := F) he5) (fun j hj => .inl hj)) (Only.of_ext (F := F) he6) (fun j hj => .inl hj)⟩
  · have eg : Spa.get { S with now := cc } a = S.page a := by
      unfold Spa.get
      rw [if_neg (by rw [show Spa.asked { S with now := cc } a = S.asked a from rfl, d2]; simp), if_neg (by dsimp only; omega)]
      rfl
    rw [eg] at hok ⊢
    refine box_i (vs := pgV (S.page a).1 y) (by rfl) (pgV_one _ _) (fun r6 w6 hb6 he6 hr6 => ?_) (by rfl)
    dsimp only
    rw [d3]
    refine splitW_f (by rfl) ?_
    have he56 := he5.trans he6
    have hS6 := hS.ext he56
    have hok6 := hok.ext he6
    have hoy6 := hoy.ext he56
    have o6 : Only F w w6 := Only.trans hO (Only.of_ext (F := F) he56) (fun j hj => .inl hj)
    obtain ⟨t, hbx⟩ := hS6.box
    refine ptr_i (boxE (l := .ptr) 8 (some ⟨nb, 0, none⟩) hbx (by rfl) (by rfl) ?_)
    refine callW_of (sub_now hS6 ha) ?_
    rintro _ w7 ⟨rfl, hS7, hg7⟩
    have datE : atE cc a = 0 := by
      obtain ⟨a1, a2, a3⟩ := asked_iff.1 d2
      have hl := hS.ok.now
      have hl' : cc.length = S.N := hl
      unfold atE
      rw [if_neg (by omega), if_neg (by omega)]
    refine ⟨((subN cc a : Int), atE cc a, ()), rfl, ?_⟩
    dsimp only
    rw [datE]
    refine splitW_f (by rfl) ?_
    have h3lt : nr < w3.heap.size := Nat.lt_of_lt_of_le hnrlt hO.2.2.2.1
    have hb7 := hb6.grown hg7 (by simp; have := he5.size; omega)
    have hkrow : ∀ j, orow y.1 = some j → w3.heap.size ≤ j := fun j hj => hok.row j hj
    have hok7 := hok6.grown hg7 (fun j hj e => by injection hj with hj; subst hj; have := hkrow _ e; omega)
    have hoy7 := hoy6.grown hg7 hnrA
    have o7 : Only F w w7 := Only.trans o6 (h.nrOnly hg7) (fun j hj => .inl hj)
    refine boxF (l := .slc) 1 y hb7 (by rfl) ?_
    have hkl := (pageR_kids (N := S.N) (bs := B (S.dev.read a).1))
    have hkl1 : (S.page a).1.2.1.length ≤ 1024 := hkl.1
    have hyn := hok7.len
    refine callW_of (rev_calls hok7 (by omega)) ?_
    rintro _ w8 ⟨rfl, hok8, hg8⟩
    refine ⟨(), rfl, ?_⟩
    have hyr6 : ∀ j, orow y.1 = some j → j ≠ r6 := fun j hj e => by have := hok.row_lt j hj; omega
    have hb8 := hb7.grown hg8 (fun e => hyr6 r6 e.symm rfl)
    have hAlt : ∀ j, orow A = some j → j < w3.heap.size := fun j hj => hoy.row_lt j hj
    have hoy8 := hoy7.grown hg8 (fun j hj e => by have := hkrow j hj; have := hAlt j e; omega)
    have o8' : Only (fun j => orow y.1 = some j) w7 w8 := Only.of_grown hg8 (fun j hj => .inl hj)
    have h37 : w.heap.size ≤ w3.heap.size := hO.2.2.2.1
    have hS8 := hS7.only o8' (fun j hj e => by have := hkrow j e; have := hFlt j hj; omega)
    have o8 : Only F w w8 := Only.trans o7 o8' (fun j hj => .inr (by have := hkrow j hj; omega))
    refine boxF (l := .slc) 1 y hb8 (by rfl) ?_
    have hrl : (S.page a).1.2.1.reverse.length = y.2.1 := by rw [List.length_reverse]; exact hyn
    refine append_sli (E := numE .u32) elem_u32 hoy8 (by have := hb8.lt; have := he5.size; omega) hok8.sl (by omega) (by omega) ?_
    intro A' c'' w9 ho9 hg9 _
    have hx9 : ∀ j, orow A = some j → ¬ F j := fun j hj hf => by have := hr2F j hj; have := hFlt j hf; omega
    have o9' : Only (fun j => orow A = some j) w8 w9 := Only.of_grown hg9.grown (fun j hj => .inl hj)
    have hS9 := hS8.only o9' (fun j hj e => hx9 j e hj)
    have o9 : Only F w w9 := Only.trans o8 o9' (fun j hj => .inr (hr2F j hj))
    have hsum := subL_sum datE
    rw [show ys.length + y.2.1 = (ys ++ (S.page a).1.2.1.reverse).length by rw [List.length_append, hrl]] at ho9 ⊢
    refine hJ _ _ _ (by omega : (subL cc a).sum < cc.sum) ⟨subL cc a, ys ++ (S.page a).1.2.1.reverse, A', c'', rfl, rfl, ?_, hS9, ho9, fun k hk => ?_, o9, ?_⟩
    · rw [List.reverse_append, List.reverse_reverse]; exact d4
    · rcases List.mem_append.1 hk with hk | hk
      · exact h32 k (List.mem_append_left _ hk)
      · have := hkl.2 k (List.mem_reverse.1 hk); omega
    · rw [List.length_append, hrl]; omega
end Go.Proofs.YtjdmggaeagnolaaGreat.V
/- Contracts of counts.Load, and of the reference's New, Pages, Load. -/
set_option linter.unusedVariables false
set_option linter.unusedSimpArgs false
namespace Go.Proofs.YtjdmggaeagnolaaGreat.V
open Go Go.Proofs Go.RowKit
theorem pagesL_sizes (l : List Nat) (per : Nat) : fitsP l.length per (pagesL l per) := by
  unfold fitsP sizes pagesL
  rw [List.map_map]
  apply List.map_congr_left
  intro i _
  simp only [Function.comp]
  rw [B_size, B_mk]
  unfold pageB
  rw [flat2_length]
  simp
def loadE (size blocks : Int) (ps : List ByteArray) : Int :=
  if geoOK size blocks = false then 2 else if ¬ fitsP blocks.toNat (perOf size) ps then 4 else if (loadL ps).getD 0 0 = 1 ∧ (loadL ps).getD 1 0 = 1 then 0 else 4
theorem newL_length {n : Nat} (h : 2 ≤ n) : (newL n).length = n := by simp [newL]; omega
theorem fits_new {n per : Nat} {ps : List ByteArray} (h : 2 ≤ n) : sizes ps = sizes (pagesL (newL n) per) ↔ fitsP n per ps := by
  have := pagesL_sizes (newL n) per
  rw [newL_length h] at this
  unfold fitsP at this ⊢
  rw [this]
theorem spages_geo {size : Int} {n : Nat} (h : geoOK size n = true) : spages size n = ((cutsN n (perOf size) : Nat) : Int) := by
  unfold spages
  rw [if_pos h, Int.toNat_natCast]
/-- A row of counts, partly read. -/
theorem Cnt.merge {w : World} {b r m : Nat} {size : Int} {ps : List ByteArray} {N : List Nat} (h : Cnt w b r size [] (merge (loadL ps) N m)) (hl : (loadL ps).length = N.length) (hm : m < N.length) :
    Cnt (w.setCell ⟨r, m, none⟩ (.int .u16 ((loadL ps).getD m 0 : Int))) b r size [] (merge (loadL ps) N (m + 1)) ∧ w.grownBy (w.setCell ⟨r, m, none⟩ (.int .u16 ((loadL ps).getD m 0 : Int))) (some r) := by
  have hlt : (loadL ps).getD m 0 < 65536 := by
    rw [List.getD_eq_getElem?_getD, List.getElem?_eq_getElem (by omega)]
    exact loadL_lt ps _ (List.getElem_mem _)
  have := h.set (i := m) (by rw [merge_length hl]; exact hm) hlt
  rw [merge_set hm (by omega)] at this
  exact this
theorem load_calls {w : World} {size blocks : Int} {A : Option Addr} {np c : Nat} {ps : List ByteArray} (hp : Sli strE w A np ps) :
    Calls Tryz.prog 51 #[.agg #[.int .i64 size, .int .i64 blocks], .slice A np c] w (Ret fun v w' => ∃ x : Option Addr, v = .tuple #[.pointer x, .int .i64 (loadE size blocks ps)] ∧ (if loadE size blocks ps = 0 then ∃ b r, x = some ⟨b, 0, none⟩ ∧ Cnt w' b r size [] (loadL ps) ∧ w.heap.size ≤ b ∧ w.heap.size ≤ r else x = none) ∧ Ext w w') := by
  apply calls51
  unfold S51
  have hpl := hp.len
  have hple := hp.2.1
  apply newW_i
  have hb : Blk (w.alloc (.cells #[(.int .i64 size), (.int .i64 blocks)] 28)) w.heap.size [(.int .i64 size), (.int .i64 blocks)] 28 := Blk.new w _ _
  have he : Ext w (w.alloc (.cells #[(.int .i64 size), (.int .i64 blocks)] 28)) := (Ext.refl w).alloc _
  generalize w.alloc (.cells #[(.int .i64 size), (.int .i64 blocks)] 28) = w1 at hb he ⊢
  generalize hgb : w.heap.size = gb at hb ⊢
  refine ldA_blk (ls := [(.int .i64), (.int .i64)]) (x := (size, blocks, ())) hb rfl ?_
  refine callW_of (new_calls w1 size blocks) ?_
  rintro _ w2 ⟨x, rfl, hx, he2⟩
  refine ⟨(x, (if geoOK size blocks then 0 else 2), ()), rfl, ?_⟩
  have he02 := he.trans he2
  have hb2 := hb.ext he2
  apply newW_i
  have hr4 := Blk.new w2 #[.pointer none] 74
  have he3 := he02.alloc (.cells #[.pointer none] 74)
  have h23 := (Ext.refl w2).alloc (.cells #[.pointer none] 74)
  generalize w2.alloc (.cells #[.pointer none] 74) = w3 at hr4 he3 h23 ⊢
  have hs2 := he02.size
  have hs2' := he2.size
  have hs1 := hb.lt
  generalize hr4e : w2.heap.size = r4 at hr4 hs2 hs2' ⊢
  refine stW_blk hr4 (by simp) ?_
  have hr4 := hr4.set 0 (.pointer x)
  have hb3 := (hb2.ext h23).other (p := ⟨r4, 0, none⟩) (by simp only; omega) (.pointer x)
  have he4 := he3.set (p := ⟨r4, 0, none⟩) (by simp only; omega) (.pointer x)
  have h24 := h23.set (p := ⟨r4, 0, none⟩) (by simp only; omega) (.pointer x)
  generalize w3.setCell ⟨r4, 0, none⟩ (.pointer x) = w4 at hr4 hb3 he4 h24 ⊢
  dsimp only
  cases hok : geoOK size blocks with
  | false =>
    have e : loadE size blocks ps = 2 := by unfold loadE; rw [if_pos hok]
    rw [if_neg (by simp)]
    refine splitW_t (by rfl) ⟨none, by rw [e], by rw [e, if_neg (by omega)], he4⟩
  | true =>
  rw [if_pos rfl]
  refine splitW_f (by rfl) ?_
  rw [hok, if_pos rfl] at hx
  obtain ⟨b, r, rfl, hc, hbw, hrw⟩ := hx
  obtain ⟨h8, n, rfl, hn1, hn2⟩ := geo8 hok
  rw [Int.toNat_natCast] at hc
  have hbr4 : b < r4 := by have := hc.head.lt; omega
  have hrr4 : r < r4 := by have := hc.row.lt; omega
  have hc := hc.ext h24
  have hb0 : w.heap.size ≤ b := by have := he.size; omega
  have hr0 : w.heap.size ≤ r := by have := he.size; omega
  have hE : ∀ z, loadE size n ps = z ↔ (if ¬ fitsP n (perOf size) ps then 4 else if (loadL ps).getD 0 0 = 1 ∧ (loadL ps).getD 1 0 = 1 then 0 else 4) = z := fun z => by
    unfold loadE
    rw [if_neg (by rw [hok]; simp), Int.toNat_natCast]
  refine ldA_blk (ls := [(.int .i64), (.int .i64)]) (x := (size, (n : Int), ())) hb3 rfl ?_
  refine callW_of (spages_calls w4 size n) ?_
  rintro _ w5 ⟨rfl, he5⟩
  refine ⟨_, rfl, ?_⟩
  have he05 := he4.trans he5
  rw [spages_geo hok]
  obtain ⟨hp1, hp2, _⟩ := perOf_spec h8
  refine splitW_i (fun hne => ?_) (fun heq => ?_)
  · have hne := bne_iff_ne.1 hne
    have e : loadE size n ps = 4 := by
      rw [hE, if_pos]
      intro hf
      have := fitsP_len hf
      omega
    exact ⟨none, by rw [e], by rw [e, if_neg (by omega)], he05⟩
  refine ldW_blk (x := some ⟨b, 0, none⟩) (hr4.ext he5) (by rfl) ?_
  refine callW_of (pages_calls (hc.ext he5) h8) ?_
  rintro _ w6 ⟨⟨A2, n2, c2⟩, rfl, ho, he6⟩
  refine ⟨(A2, n2, c2), rfl, ?_⟩
  dsimp only at ho ⊢
  have he06 := he05.trans he6
  refine callW_of (eqfunc_calls (c := c) (c2 := c2) (hp.ext he06) ho.sl) ?_
  rintro _ w6 ⟨rfl, hw⟩
  subst hw
  refine ⟨_, rfl, ?_⟩
  have hper : ∃ per, per = perOf size := ⟨_, rfl⟩
  obtain ⟨per, hper⟩ := hper
  rw [← hper] at hp1 hp2 hE ⊢
  rw [show decide (sizes ps = sizes (pagesL (newL n) per)) = decide (fitsP n per ps) from decide_eq_decide.2 (fits_new (by omega))]
  by_cases hf : fitsP n per ps
  rotate_left
  · have e : loadE size n ps = 4 := by rw [hE, if_pos hf]
    rw [decide_eq_false hf]
    exact splitW_t (by rfl) ⟨none, by rw [e], by rw [e, if_neg (by omega)], he06⟩
  rw [decide_eq_true hf]
  refine splitW_f (by rfl) ?_
  have hDl := loadL_length (by omega) hf
  have hNl := newL_length (n := n) (by omega)
  have hbe := hb3.ext (he5.trans he6)
  have hr46 := hr4.ext (he5.trans he6)
  have hc6 := (hc.ext he5).ext he6
  clear hb hb2 hb3 hr4 hc ho he5 he6 h24 h23 he2 he02 he3 he4 he he05 hbe
  apply newW_i
  have hr10 := Blk.new w6 #[.int .i64 0] 3
  have he7 := he06.alloc (.cells #[.int .i64 0] 3)
  have h67 := (Ext.refl w6).alloc (.cells #[.int .i64 0] 3)
  have hr47 := hr46.alloc (.cells #[.int .i64 0] 3)
  have hc7 := hc6.ext h67
  have hs6 := he06.size
  have hr4lt := hr46.lt
  have hclt := hc6.head.lt
  have hrlt := hc6.row.lt
  generalize w6.alloc (.cells #[.int .i64 0] 3) = w7 at hr10 he7 hr47 hc7 ⊢
  generalize hr10e : w6.heap.size = r10 at hr10 hs6 hr4lt hclt hrlt ⊢
  refine stW_blk hr10 (by simp) ?_
  have hr10 := hr10.set 0 (.int .i64 0)
  have he8 := he7.set (p := ⟨r10, 0, none⟩) (by simp only; omega) (.int .i64 0)
  have hr48 := hr47.other (p := ⟨r10, 0, none⟩) (by simp only; omega) (.int .i64 0)
  have hc8 : Cnt (w7.setCell ⟨r10, 0, none⟩ (.int .i64 0)) b r size [] (newL n) := hc7.kept (k := r10) ⟨rfl, rfl, rfl, by simp, fun k hk hne => Below.heap_setCell _ _ _ _ (fun e => hne (by rw [e]))⟩ (by omega) (by omega)
  generalize w7.setCell ⟨r10, 0, none⟩ (.int .i64 0) = w8 at hr10 he8 hr48 hc8 ⊢
  -- the pages
  refine loopW_i (fun y w' => ∃ (i : Nat) (ds : List Deferred), i ≤ np ∧ y = ((i : Int), ds, ()) ∧ Ext w w' ∧ Blk w' r4 [.pointer (some ⟨b, 0, none⟩)] 74 ∧ Blk w' r10 [.int .i64 ((loadL (ps.take i)).length : Int)] 3 ∧ Cnt w' b r size [] (merge (loadL ps) (newL n) (loadL (ps.take i)).length) ∧ Dfs w.heap.size w' ds) (fun y => (np - y.1).toNat) ⟨0, [], by omega, rfl, he8, hr48, hr10, by rw [show (loadL (ps.take 0)).length = 0 by simp [loadL], merge_zero]; exact hc8, trivial⟩ ?_
  rintro _ w9 ⟨i, ds, hi, rfl, he9, hr49, hr109, hc9, hds⟩
  dsimp only
  have hat : (loadL (ps.take i)).length ≤ n := by rw [part_length hf i (by omega)]; omega
  by_cases hlt : i < np
  · refine splitW_t (decide_eq_true (by omega)) ?_
    refine idx_str (hp.ext he9) (by omega) (by omega) ?_
    rw [Int.toNat_natCast]
    have hip : i < ps.length := by omega
    have eg : ps.getD i ByteArray.empty = ps[i] := by simp [hip]
    rw [eg]
    have hsz := fitsP_size hf hip
    have hsu := part_succ hip
    have hsn : (loadL (ps.take (i + 1))).length ≤ n := by rw [part_length hf (i + 1) (by omega)]; omega
    have hgetw : ∀ k, k < (B ps[i]).length / 2 → (loadL ps).getD ((loadL (ps.take i)).length + k) 0 = lev (((B ps[i]).drop (2 * k)).take 2) := fun k hk => loadL_get hip hk
    generalize ps[i] = s at hsz hsu hgetw ⊢
    have hss := B_size s
    generalize hz : (loadL (ps.take i)).length = at0 at *
    refine conv_bytes (u := .string) (e := 5) (by kernel_rfl) (by kernel_rfl) (by kernel_rfl) (by omega) ?_
    intro cc w10 hsl he10 hs10 hcc
    refine callW_of (chunk8_calls (k := 2) (by omega) hcc (by dsimp only; omega)) ?_
    rintro v w11 ⟨hit, hRc, hs11, he11⟩
    refine ⟨v, rfl, ?_⟩
    dsimp only at hit hRc
    have he911 := he10.trans he11
    have he011 := he9.trans he911
    have hsl11 := hsl.ext he11
    have hr411 := hr49.ext he911
    have hr1011 := hr109.ext he911
    have hc11 := hc9.ext he911
    have hds11 : Dfs w.heap.size w11 ds := hds.kept fun k h1 _ => he911.heap h1
    have hs9 := he9.size
    have h4lt := hr49.lt
    have h10lt := hr109.lt
    have hblt := hc9.head.lt
    have hrlt2 := hc9.row.lt
    clear hds hsl hr49 hr109 hc9
    have hcn : (cutsV 1 (some ⟨w9.heap.size, 0, none⟩) s.size 2).length = s.size / 2 := by rw [cutsV_length]; unfold cutsN; omega
    refine range_i (R := RChunk8 w10.heap.size (w10.heap.size + 1) (some ⟨w9.heap.size, 0, none⟩) s.size cc 2) (fun k w' => Ext w w' ∧ RChunk8 w10.heap.size (w10.heap.size + 1) (some ⟨w9.heap.size, 0, none⟩) s.size cc 2 w' ∧ Sl w' (some ⟨w9.heap.size, 0, none⟩) s.size (bV (B s)) ∧ Blk w' r4 [.pointer (some ⟨b, 0, none⟩)] 74 ∧ Blk w' r10 [.int .i64 ((at0 + k : Nat) : Int)] 3 ∧ Cnt w' b r size [] (merge (loadL ps) (newL n) (at0 + k)) ∧ KeepD w11 w') hit (fun i w' hI => hI.2.1) (fun i w' hI => ⟨hI.1.drew, hI.2.1, hI.2.2.1, hI.2.2.2.1, hI.2.2.2.2.1, hI.2.2.2.2.2.1.ext (Ext.refl w').drew, hI.2.2.2.2.2.2⟩) ?_ ?_ ?_ ?_
    · rintro k w' w'' hsb ⟨e1, ⟨e2, e3⟩, e4, e5, e6, e7, e8⟩
      have hkeep : ∀ j : Nat, j < w11.heap.size → w''.heap[j]? = w'.heap[j]? := fun j hj => hsb.2.2.2.2 j (by omega) (by omega)
      refine ⟨e1.sameBut hsb (by omega) (by omega), ⟨(hkeep _ (by omega)).trans e2, (hkeep _ (by omega)).trans e3⟩, ⟨e4.1, e4.2.1, fun hn => ?_⟩, (hkeep _ (by omega)).trans e5, (hkeep _ (by omega)).trans e6, ⟨(hkeep _ (by omega)).trans e7.head, (hkeep _ (by omega)).trans e7.row, e7.ne, e7.len, e7.fits⟩, fun j hj => ?_⟩
      · obtain ⟨a, ha, hcell⟩ := e4.2.2 hn
        refine ⟨a, ha, fun j v hj => ?_⟩
        injection ha with ha
        subst ha
        have := hcell j v hj
        rw [add_mk] at this ⊢
        simp only [World.cell?] at this ⊢
        rw [hkeep _ (by omega)]
        exact this
      · have hjl : j < w11.heap.size := (Array.getElem?_eq_some_iff.1 hj).1
        rw [hkeep j hjl]
        exact e8 j hj
    · intro o
      have hx := ((Ext.refl w11).alloc (.deferred (some []))).alloc o
      exact ⟨he011.trans hx, ⟨hRc.1.ext hx, hRc.2.ext hx⟩, hsl11.ext hx, hr411.ext hx, hr1011.ext hx, hc11.ext hx, fun j hj => hx.heap hj⟩
    · rintro k hk w' N jump ⟨e1, ⟨e2, e3⟩, e4, e5, e6, e7, e8⟩ hsz' hN
      rw [hcn] at hk
      have hcut : (cutsV 1 (some ⟨w9.heap.size, 0, none⟩) s.size 2)[k]'(by rw [hcn]; exact hk) = [.slice (cutAddr (some ⟨w9.heap.size, 0, none⟩) (k * 2) (k * 2 + 2) 1) 2 2] := by
        have : min 2 (s.size - k * 2) = 2 := by omega
        simp [cutsV, this]
      refine ⟨((cutAddr (some ⟨w9.heap.size, 0, none⟩) (k * 2) (k * 2 + 2) 1, 2, 2), ()), hcut.symm, ?_⟩
      dsimp only
      have hsub := e4.cut (l := k * 2) (k := 2) (m := k * 2 + 2) (by omega) (by omega)
      rw [bV_drop, bV_take] at hsub
      have he1' : Ext w' w'.drew := (Ext.refl w').drew
      have e1 := e1.drew
      show (ldW _ _ _) w'.drew
      have e5' := e5.ext he1'
      have e6' := e6.ext he1'
      have e7' := e7.ext he1'
      have hsub := hsub.ext he1'
      generalize hwd : w'.drew = wd at *
      refine ldW_blk (x := some ⟨b, 0, none⟩) e5' (by rfl) (ptr_i ?_)
      refine ld_blk (o := 2) (x := (some ⟨r, 0, none⟩, (merge (loadL ps) (newL n) (at0 + k)).length, (merge (loadL ps) (newL n) (at0 + k)).length + 0)) e7'.head (by rfl) ?_
      refine ldW_blk (x := ((at0 + k : Nat) : Int)) e6' (by rfl) ?_
      refine callW_of (octof_calls hsub (by omega)) ?_
      rintro _ w12 ⟨rfl, he12⟩
      refine ⟨_, rfl, ?_⟩
      rw [show k * 2 = 2 * k by omega, ← hgetw k (by omega)]
      have hml := merge_length (D := loadL ps) (N := newL n) (by omega) (at0 + k)
      have hklt : at0 + k < n := by omega
      refine ⟨fun ls hls p hp => ?_, ?_⟩
      · simp only [List.mem_cons, List.not_mem_nil, or_false] at hls
        rcases hls with rfl | rfl | rfl <;> (simp only [List.mem_singleton] at hp; subst hp)
        · rw [(e6'.ext he12).cell]; rfl
        · rw [add_mk, (e7'.head.ext he12).cell]; rfl
        · rw [(e5'.ext he12).cell]; rfl
      dsimp only
      refine guard_i ⟨by omega, by omega⟩ (ptr_i ?_)
      rw [Int.toNat_natCast, Nat.mul_one, add_mk, Nat.zero_add]
      have hDlt : (loadL ps).getD (at0 + k) 0 < 65536 := by
        rw [List.getD_eq_getElem?_getD, List.getElem?_eq_getElem (by omega)]
        exact loadL_lt ps _ (List.getElem_mem _)
      rw [show IntKind.wrap .u16 (((loadL ps).getD (at0 + k) 0 : Nat) : Int) = (((loadL ps).getD (at0 + k) 0 : Nat) : Int) by rw [wrap_u16]; omega]
      have hc12 := e7'.ext he12
      obtain ⟨hc13, hg13⟩ := hc12.merge (m := at0 + k) (by omega) (by omega)
      refine stW_blk hc12.row (by rw [List.append_nil, length_uV]; omega) ?_
      have h1013 := (e6'.ext he12).grown hg13 (by simp; omega)
      have h413 := (e5'.ext he12).grown hg13 (by simp; omega)
      have he13 : Ext w _ := (e1.trans he12).grown hg13 (fun j hj => by injection hj with hj; omega)
      have hkeep13 : ∀ j : Nat, j < w'.heap.size → j ≠ r → (w12.setCell ⟨r, at0 + k, none⟩ (.int .u16 ((loadL ps).getD (at0 + k) 0 : Int))).heap[j]? = w'.heap[j]? := fun j hj hne => by
        have hdj : w'.drew.heap[j]? = w'.heap[j]? := rfl
        rw [hg13.block j (by have := he12.size; have := he1'.size; omega) (by simp; omega), he12.block j (by have := he1'.size; omega), ← hwd]
        exact hdj
      have hs13 := hg13.size
      generalize w12.setCell ⟨r, at0 + k, none⟩ (.int .u16 ((loadL ps).getD (at0 + k) 0 : Int)) = w13 at hc13 hg13 h1013 h413 he13 hkeep13 hs13 ⊢
      refine ldW_blk (x := ((at0 + k : Nat) : Int)) h1013 (by rfl) ?_
      refine stW_blk h1013 (by simp) ?_
      rw [wrap_i64 (by omega) (by omega), show ((at0 + k : Nat) : Int) + 1 = ((at0 + (k + 1) : Nat) : Int) by omega]
      have h1014 := h1013.set 0 (.int .i64 ((at0 + (k + 1) : Nat) : Int))
      have hset : ∀ j : Nat, j ≠ r10 → (w13.setCell ⟨r10, 0, none⟩ (.int .i64 ((at0 + (k + 1) : Nat) : Int))).heap[j]? = w13.heap[j]? := fun j hj => Below.heap_setCell _ _ _ _ (by simp only; omega)
      have hall : ∀ j : Nat, j < w'.heap.size → j ≠ r → j ≠ r10 → (w13.setCell ⟨r10, 0, none⟩ (.int .i64 ((at0 + (k + 1) : Nat) : Int))).heap[j]? = w'.heap[j]? := fun j h1 h2 h3 => (hset j h3).trans (hkeep13 j h1 h2)
      refine hN _ ⟨he13.set (by simp only; omega) _, ⟨(hall _ (by omega) (by omega) (by omega)).trans e2, (hall _ (by omega) (by omega) (by omega)).trans e3⟩, ⟨e4.1, e4.2.1, fun hn => ?_⟩, (hset _ (by omega)).trans h413, h1014, hc13.kept (k := r10) ⟨rfl, rfl, rfl, by simp, fun k hk hne => Below.heap_setCell _ _ _ _ (fun e => hne (by rw [e]))⟩ (by omega) (by omega), fun j hj => ?_⟩ (by have := he12.size; have := he1'.size; simp; omega) (fun j hj => hall j (by omega) (by omega) (by omega))
      · obtain ⟨a, ha, hcell⟩ := e4.2.2 hn
        refine ⟨a, ha, fun j v hj => ?_⟩
        injection ha with ha
        subst ha
        have := hcell j v hj
        rw [add_mk] at this ⊢
        simp only [World.cell?] at this ⊢
        rw [hall _ (by omega) (by omega) (by omega)]
        exact this
      · have hjl : j < w11.heap.size := (Array.getElem?_eq_some_iff.1 hj).1
        have hjr : j ≠ r := fun e => by rw [e, show w11.heap[r]? = _ from hc11.row] at hj; simp at hj
        have hjr10 : j ≠ r10 := fun e => by rw [e, show w11.heap[r10]? = _ from hr1011] at hj; simp at hj
        rw [hall j (by omega) hjr hjr10]
        exact e8 j hj
    · rintro w' ⟨e1, ⟨e2, e3⟩, e4, e5, e6, e7, e8⟩ hsz' hd
      rw [hcn] at e6 e7
      have e9 : at0 + s.size / 2 = (loadL (ps.take (i + 1))).length := by omega
      rw [e9] at e6 e7
      rw [wrap_i64 (by omega) (by omega)]
      refine ⟨⟨i + 1, ⟨.collected w11.heap.size, #[]⟩ :: ds, by omega, rfl, e1, e5, e6, e7, w11.heap.size, rfl, by omega, hd, fun d' hd' e => ?_, hds11.kept fun k h1 _ => e8 k h1⟩, by omega⟩
      have := hds11.lt d' hd' _ e
      omega
  · obtain rfl : i = np := by omega
    refine splitW_f (decide_eq_false (by omega)) ?_
    rw [List.take_of_length_le (by omega), show (loadL ps).length = (loadL ps).length from rfl, merge_full (by omega)] at hc9
    have hlen : (loadL ps).length = n := hDl
    have rd : ∀ {K : (Option Addr × Nat × Nat) → WP}, K (some ⟨r, 0, none⟩, (loadL ps).length, (loadL ps).length + 0) w9 → (ldW .ptr (⟨r4, 0, none⟩ : Addr) fun (u : Option Addr) => ptrW u fun (p : Addr) => ldW .slc (p.add 2) K) w9 := fun {K} hk =>
      ldW_blk (x := some ⟨b, 0, none⟩) hr49 (by rfl) (ptr_i (ld_blk (o := 2) (x := (some ⟨r, 0, none⟩, (loadL ps).length, (loadL ps).length + 0)) hc9.head (by rfl) hk))
    refine rd ?_
    dsimp only
    refine guard_i ⟨by omega, by omega⟩ (ptr_i ?_)
    refine ld_blk hc9.row (x := ((loadL ps).getD 0 0 : Nat)) (show (uV .u16 (loadL ps) ++ [])[Int.toNat 0 * 1]? = _ from uVq_get (i := 0) (by omega)) ?_
    have hE := hE
    refine splitW_i (fun h0 => ?_) (fun h0 => ?_)
    · have h0 := bne_iff_ne.1 h0
      have e : loadE size n ps = 4 := by rw [hE, if_neg (by simpa using hf), if_neg (by omega)]
      refine leave_all ds w9 hds fun w' hs => ⟨none, by rw [e], by rw [e, if_neg (by omega)], he9.sameDf hs⟩
    refine rd ?_
    dsimp only
    refine guard_i ⟨by omega, by omega⟩ (ptr_i ?_)
    refine ld_blk hc9.row (x := ((loadL ps).getD 1 0 : Nat)) (show (uV .u16 (loadL ps) ++ [])[Int.toNat 1 * 1]? = _ from uVq_get (i := 1) (by omega)) ?_
    refine splitW_i (fun h1 => ?_) (fun h1 => ?_)
    · have h1 := bne_iff_ne.1 h1
      have e : loadE size n ps = 4 := by rw [hE, if_neg (by simpa using hf), if_neg (by omega)]
      refine leave_all ds w9 hds fun w' hs => ⟨none, by rw [e], by rw [e, if_neg (by omega)], he9.sameDf hs⟩
    have h0 := bne_eq_false_iff_eq.1 h0
    have h1 := bne_eq_false_iff_eq.1 h1
    have e : loadE size n ps = 0 := by rw [hE, if_neg (by simpa using hf), if_pos (by omega)]
    refine ldW_blk (x := some ⟨b, 0, none⟩) hr49 (by rfl) ?_
    refine leave_all ds w9 hds fun w' hs => ⟨some ⟨b, 0, none⟩, by rw [e], ?_, he9.sameDf hs⟩
    rw [e, if_pos rfl]
    exact ⟨b, r, rfl, ⟨hc9.head.sameDf hs, hc9.row.sameDf hs, hc9.ne, hc9.len, hc9.fits⟩, by omega, by omega⟩
end Go.Proofs.YtjdmggaeagnolaaGreat.V
/- Contracts of the package space: commit, Format. -/
set_option linter.unusedVariables false
set_option linter.unusedSimpArgs false
namespace Go.Proofs.YtjdmggaeagnolaaGreat.V
open Go Go.Proofs Go.RowKit Crc
def wrL (d : Dev) : List (Nat × Fra) → Dev × Int
  | [] => (d, 0)
  | kf :: r => if (writeF d kf.1 kf.2).2 ≠ 0 then writeF d kf.1 kf.2 else wrL (writeF d kf.1 kf.2).1 r
def pgFs (gen : Nat) (ps : List Nat) (l : List ByteArray) : List (Nat × Fra) := (ps.zip l).map fun p => (p.1, ((2 : UInt8), gen, p.2))
def commitD (d : Dev) (c : List Nat) (s : Sup) (slot : Int) : Dev × Int :=
  if (wrL d (pgFs s.gen s.pages (pagesL c (perOf d.size)))).2 ≠ 0 then wrL d (pgFs s.gen s.pages (pagesL c (perOf d.size)))
  else if (wrL d (pgFs s.gen s.pages (pagesL c (perOf d.size)))).1.flush.2 ≠ 0 then (wrL d (pgFs s.gen s.pages (pagesL c (perOf d.size)))).1.flush
  else if (putS s).2 ≠ 0 then ((wrL d (pgFs s.gen s.pages (pagesL c (perOf d.size)))).1.flush.1, (putS s).2)
  else if ((wrL d (pgFs s.gen s.pages (pagesL c (perOf d.size)))).1.flush.1.write slot (mkB (putS s).1)).2 ≠ 0 then (wrL d (pgFs s.gen s.pages (pagesL c (perOf d.size)))).1.flush.1.write slot (mkB (putS s).1)
  else ((wrL d (pgFs s.gen s.pages (pagesL c (perOf d.size)))).1.flush.1.write slot (mkB (putS s).1)).1.flush
theorem Step.pre {w w1 w2 : World} {db : Nat} {Fd F1 : Nat → Prop} {d : Dev} (hO : Only Fd w w1) (hF : ∀ k, F1 k → Fd k ∨ w.heap.size ≤ k) (h : Step w1 db F1 d w2) : Step w db Fd d w2 := by
  obtain ⟨F2, g1, g2, g3⟩ := h
  refine ⟨F2, g1, fun k hk => ?_, Only.trans hO g3 hF⟩
  rcases g2 k hk with e | e
  · exact hF k e
  · exact .inr (Nat.le_trans hO.2.2.2.1 e)
theorem write_dim (d : Dev) (k : Int) (s : ByteArray) : (d.write k s).1.size = d.size ∧ (d.write k s).1.blocks = d.blocks ∧ (d.write k s).1.pen.length ≤ d.pen.length + 1 := by
  unfold Dev.write
  split
  · exact ⟨rfl, rfl, by simp⟩
  · split
    · exact ⟨rfl, rfl, by simp⟩
    · exact ⟨rfl, rfl, by simp⟩
theorem writeF_dim (d : Dev) (k : Int) (f : Fra) : (writeF d k f).1.size = d.size ∧ (writeF d k f).1.blocks = d.blocks ∧ (writeF d k f).1.pen.length ≤ d.pen.length + 1 := by
  unfold writeF
  split
  · exact ⟨rfl, rfl, by simp⟩
  · exact write_dim _ _ _
theorem flush_dim (d : Dev) : d.flush.1.size = d.size ∧ d.flush.1.blocks = d.blocks ∧ d.flush.1.pen.length ≤ d.pen.length := by
  unfold Dev.flush
  split
  · exact ⟨rfl, rfl, Nat.le_refl _⟩
  · exact ⟨rfl, rfl, by simp⟩
theorem wrL_dim : ∀ (l : List (Nat × Fra)) (d : Dev), (wrL d l).1.size = d.size ∧ (wrL d l).1.blocks = d.blocks ∧ (wrL d l).1.pen.length ≤ d.pen.length + l.length
  | [], d => ⟨rfl, rfl, by simp [wrL]⟩
  | kf :: r, d => by
    obtain ⟨h1, h2, h3⟩ := writeF_dim d kf.1 kf.2
    unfold wrL
    split
    · exact ⟨h1, h2, by simp only [List.length_cons]; omega⟩
    · obtain ⟨g1, g2, g3⟩ := wrL_dim r (writeF d kf.1 kf.2).1
      exact ⟨g1.trans h1, g2.trans h2, by simp only [List.length_cons]; omega⟩
theorem pagesL_length (l : List Nat) (per : Nat) : (pagesL l per).length = cutsN l.length per := by simp [pagesL]
theorem pgFs_get {gen : Nat} {ps : List Nat} {l : List ByteArray} (h : ps.length = l.length) {i : Nat} (hi : i < l.length) : (pgFs gen ps l)[i]? = some (ps.getD i 0, ((2 : UInt8), gen, l.getD i ByteArray.empty)) := by
  unfold pgFs
  rw [List.getElem?_map, List.getElem?_zip_eq_some.2 (show ps[i]? = some (ps.getD i 0, l.getD i ByteArray.empty).1 ∧ l[i]? = some (ps.getD i 0, l.getD i ByteArray.empty).2 from ⟨?_, ?_⟩)]
  · rfl
  · show ps[i]? = some (ps.getD i 0)
    rw [List.getD_eq_getElem?_getD, List.getElem?_eq_getElem (by omega)]; rfl
  · show l[i]? = some (l.getD i ByteArray.empty)
    rw [List.getD_eq_getElem?_getD, List.getElem?_eq_getElem (by omega)]; rfl
theorem pgFs_length {gen : Nat} {ps : List Nat} {l : List ByteArray} (h : ps.length = l.length) : (pgFs gen ps l).length = l.length := by
  unfold pgFs
  rw [List.length_map, List.length_zip, h, Nat.min_self]
theorem commit_calls {w : World} {db : Nat} {d : Dev} {Fd : Nat → Prop} (h : DevAt w db d Fd) {cb cr : Nat} {q : List Value} {c : List Nat} (hc : Cnt w cb cr d.size q c) {s : Sup} {x : SLC} (hf : s.Fits) (hp : Pg w x s.pages)
    (hx : ∀ a, x.1 = some a → ¬ Fd a.block) (hlen : s.pages.length = cutsN c.length (perOf d.size)) (hpen : d.pen.length ≤ 900000) (slot : Int) :
    Calls Tryz.prog 43 #[.pointer (some ⟨db, 0, none⟩), .pointer (some ⟨cb, 0, none⟩), .agg (sV s x).toArray, .int .i64 slot] w (Ret fun v w' => v = .int .i64 (commitD d c s slot).2 ∧ Step w db Fd (commitD d c s slot).1 w') := by
  have hgeo := h.ok.geo
  obtain ⟨h8, _⟩ := geo8 hgeo
  obtain ⟨hper1, hper2, _⟩ := perOf_spec h8
  have hcl := hc.len
  have hFlt := h.lt
  have hPl := pagesL_length c (perOf d.size)
  have hnp : cutsN c.length (perOf d.size) ≤ 4096 := by
    unfold cutsN
    rw [Nat.div_le_iff_le_mul_add_pred (by omega)]
    have : 4096 * 56 ≤ 4096 * perOf d.size := Nat.mul_le_mul_left _ hper1
    have : perOf d.size * 4096 = 4096 * perOf d.size := Nat.mul_comm _ _
    omega
  apply calls43
  unfold S43 commitD
  refine new_i fun r1 w1 hb1 he1 hr1 hz1 => ?_
  have hb1 : Blk w1 r1 (sV s x) 78 := hb1
  refine callW_of (pages_calls (hc.ext he1) h8) ?_
  rintro _ w2 ⟨y, rfl, ho2, he2⟩
  refine ⟨y, rfl, ?_⟩
  have hb1 := hb1.ext he2
  have he := he1.trans he2
  have hr1lt := hb1.lt
  have hyl := ho2.len
  have hpl := hp.len
  have hp2 := hp.ext he
  generalize hL : pgFs s.gen s.pages (pagesL c (perOf d.size)) = L at *
  have hLl : L.length = y.2.1 := by rw [← hL, pgFs_length (by omega)]; exact hyl
  have hy1 : ∀ j, orow y.1 = some j → w1.heap.size ≤ j ∧ j < w2.heap.size := fun j hj => ⟨ho2.row j hj, ho2.row_lt j hj⟩
  refine loopW_i (fun y' w' => ∃ (i : Nat) (di : Dev) (Fi : Nat → Prop), i ≤ y.2.1 ∧ y' = ((i : Int), ()) ∧ DevAt w' db di Fi ∧ (∀ k, Fi k → Fd k ∨ w2.heap.size ≤ k) ∧ Only Fd w2 w' ∧ wrL d L = wrL di (L.drop i) ∧ di.size = d.size ∧ di.pen.length ≤ d.pen.length + i) (fun y' => (y.2.1 - y'.1).toNat)
    ⟨0, d, Fd, by omega, rfl, h.ext he, fun k hk => .inl hk, Only.refl _ _, rfl, rfl, by omega⟩ ?_
  rintro _ w3 ⟨i, di, Fi, hi, rfl, hDi, hFi, hOi, hwr, hdz, hdp⟩
  dsimp only
  have hnFi : ∀ j, w.heap.size ≤ j → j < w2.heap.size → ¬ Fi j := fun j h1 h2 hf' => by
    rcases hFi j hf' with e | e
    · have := hFlt j e; omega
    · omega
  have hnFd : ∀ j, w.heap.size ≤ j → ¬ Fd j := fun j h1 hf' => by have := hFlt j hf'; omega
  have hb3 := hb1.only hOi (hnFd r1 (by omega))
  have hz := he1.size
  have ho3 := ho2.only hOi (fun j hj => hnFd j (by have := hy1 j hj; omega))
  have hp3 : Pg w3 x s.pages := ⟨hp2.sl.only hOi hx, hp2.nc⟩
  have oi : Only Fd w w3 := Only.trans (Only.of_ext he) hOi (fun j hj => .inl hj)
  have hFi' : ∀ k, Fi k → Fd k ∨ w.heap.size ≤ k := fun k hk => by
    rcases hFi k hk with e | e
    · exact .inl e
    · exact .inr (Nat.le_trans he.size e)
  by_cases hlt : i < y.2.1
  · refine splitW_t (decide_eq_true (by omega)) ?_
    refine idx_str ho3.sl (by omega) (by omega) ?_
    rw [Int.toNat_natCast]
    refine draw_i fun w4 he4 _ _ => ?_
    refine boxF (l := .slc) 4 x (hb3.ext he4) (by rfl) ?_
    refine idx_num (hp3.sl.ext he4) (by omega) (by omega) ?_
    rw [Int.toNat_natCast]
    refine box0 (s.gen : Int) (hb3.ext he4) (by rfl) ?_
    have hpi := hf.at_ i
    refine callW_of (writeF_calls (hDi.ext he4) (s.pages.getD i 0) hpi ((2 : UInt8), s.gen, (pagesL c (perOf d.size)).getD i ByteArray.empty) hf.gen (by omega)) ?_
    rintro _ w5 ⟨rfl, hst⟩
    refine ⟨_, rfl, ?_⟩
    have eL : L.drop i = (s.pages.getD i 0, ((2 : UInt8), s.gen, (pagesL c (perOf d.size)).getD i ByteArray.empty)) :: L.drop (i + 1) := by
      have := pgFs_get (gen := s.gen) (ps := s.pages) (l := pagesL c (perOf d.size)) (by omega) (i := i) (by omega)
      rw [hL] at this
      obtain ⟨h1, h2⟩ := List.getElem?_eq_some_iff.1 this
      rw [List.drop_eq_getElem_cons h1, h2]
    rw [eL] at hwr
    have hst' : Step w3 db Fi _ w5 := Step.pre (Only.of_ext he4) (fun k hk => .inl hk) hst
    have hdim := writeF_dim di (s.pages.getD i 0) ((2 : UInt8), s.gen, (pagesL c (perOf d.size)).getD i ByteArray.empty)
    refine splitW_i (fun hq => ?_) (fun hq => ?_)
    · have hq := bne_iff_ne.1 hq
      have e1 : wrL d L = writeF di (s.pages.getD i 0) ((2 : UInt8), s.gen, (pagesL c (perOf d.size)).getD i ByteArray.empty) := by
        rw [hwr, wrL, if_pos hq]
      rw [e1, if_pos hq]
      exact ⟨rfl, Step.pre oi hFi' hst'⟩
    · have hq := bne_eq_false_iff_eq.1 hq
      obtain ⟨F5, g1, g2, g3⟩ := hst'
      refine ⟨⟨i + 1, _, F5, by omega, by rw [wrap_i64 (by omega) (by omega)]; rfl, g1, fun k hk => ?_, Only.trans hOi g3 hFi, by rw [hwr, wrL, if_neg (fun hh => hh hq)], hdim.1.trans hdz, by omega⟩, by rw [wrap_i64 (by omega) (by omega)]; omega⟩
      rcases g2 k hk with e | e
      · exact hFi k e
      · exact .inr (Nat.le_trans hOi.2.2.2.1 e)
  obtain rfl : i = y.2.1 := by omega
  refine splitW_f (decide_eq_false (by omega)) ?_
  rw [List.drop_of_length_le (by omega), wrL] at hwr
  rw [hwr, if_neg (fun hh => hh rfl)]
  dsimp only
  refine callW_of (flush_calls hDi) ?_
  rintro _ w4 ⟨rfl, hst⟩
  refine ⟨_, rfl, ?_⟩
  refine splitW_i (fun hq => ?_) (fun hq => ?_)
  · have hq := bne_iff_ne.1 hq
    rw [if_pos hq]
    exact ⟨rfl, Step.pre oi hFi' hst⟩
  have hq := bne_eq_false_iff_eq.1 hq
  rw [if_neg (fun hh => hh hq)]
  obtain ⟨F4, g1, g2, g3⟩ := hst
  have hF4 : ∀ k, F4 k → Fd k ∨ w2.heap.size ≤ k := fun k hk => by
    rcases g2 k hk with e | e
    · exact hFi k e
    · exact .inr (Nat.le_trans hOi.2.2.2.1 e)
  have hF4' : ∀ k, F4 k → Fd k ∨ w.heap.size ≤ k := fun k hk => by
    rcases hF4 k hk with e | e
    · exact .inl e
    · exact .inr (Nat.le_trans he.size e)
  have o4 : Only Fd w w4 := Only.trans oi g3 hFi'
  have o24 : Only Fd w2 w4 := Only.trans hOi g3 hFi
  have hb4 := hb1.only o24 (hnFd r1 (by omega))
  have hp4 : Pg w4 x s.pages := ⟨hp2.sl.only o24 hx, hp2.nc⟩
  have hfd := flush_dim di
  refine boxA (ls := sLs) (sT s x) hb4 rfl ?_
  refine callW_of (sput_calls hf hp4) ?_
  rintro _ w5 ⟨rfl, he5⟩
  refine ⟨(⟨(putS s).1.toArray⟩, (putS s).2, ()), rfl, ?_⟩
  have o5 : Only Fd w w5 := Only.trans o4 (Only.of_ext (F := Fd) he5) (fun j hj => .inl hj)
  refine splitW_i (fun hq => ?_) (fun hq => ?_)
  · have hq := bne_iff_ne.1 hq
    rw [if_pos hq]
    exact ⟨rfl, Step.pre o5 hF4' ⟨F4, g1.ext he5, fun k hk => .inl hk, Only.refl _ _⟩⟩
  have hq := bne_eq_false_iff_eq.1 hq
  rw [if_neg (fun hh => hh hq)]
  refine callW_of (write_calls (g1.ext he5) slot (mkB (putS s).1) (by omega)) ?_
  rintro _ w6 ⟨rfl, hst⟩
  refine ⟨_, rfl, ?_⟩
  refine splitW_i (fun hq => ?_) (fun hq => ?_)
  · have hq := bne_iff_ne.1 hq
    rw [if_pos hq]
    exact ⟨rfl, Step.pre o5 hF4' hst⟩
  have hq := bne_eq_false_iff_eq.1 hq
  rw [if_neg (fun hh => hh hq)]
  obtain ⟨F6, k1, k2, k3⟩ := hst
  have hF6' : ∀ k, F6 k → Fd k ∨ w.heap.size ≤ k := fun k hk => by
    rcases k2 k hk with e | e
    · exact hF4' k e
    · exact .inr (Nat.le_trans o5.2.2.2.1 e)
  refine callW_of (flush_calls k1) ?_
  rintro _ w7 ⟨rfl, hst⟩
  exact ⟨_, rfl, rfl, Step.pre (Only.trans o5 k3 hF4') hF6' hst⟩
end Go.Proofs.YtjdmggaeagnolaaGreat.V
/- Contracts of the package space: Format. -/
set_option linter.unusedVariables false
set_option linter.unusedSimpArgs false
namespace Go.Proofs.YtjdmggaeagnolaaGreat.V
open Go Go.Proofs Go.RowKit Crc
def fmtN (size : Int) (N : Nat) : Nat := cutsN N (perOf size)
def fmtP (np : Nat) : List Nat := (List.range np).map (· + 2)
def fmtC (N np : Nat) : List Nat := List.replicate (2 + np) 1 ++ List.replicate (N - 2 - np) 0
def fmtS (size : Int) (N : Nat) : Sup := ⟨1, size, (N : Int), 0, fmtP (fmtN size N)⟩
def formatD (d : Dev) : Dev × Int :=
  if chk (fmtS d.size d.blocks.toNat) ≠ 0 then (d, chk (fmtS d.size d.blocks.toNat))
  else if (d.write 1 (zeroB d.size.toNat)).2 ≠ 0 then d.write 1 (zeroB d.size.toNat)
  else commitD (d.write 1 (zeroB d.size.toNat)).1 (fmtC d.blocks.toNat (fmtN d.size d.blocks.toNat)) (fmtS d.size d.blocks.toNat) 0
def formatS (d : Dev) : Spa := ⟨(formatD d).1, fmtS d.size d.blocks.toNat, 0, fmtC d.blocks.toNat (fmtN d.size d.blocks.toNat), fmtC d.blocks.toNat (fmtN d.size d.blocks.toNat), none⟩
theorem fmtN_le {size : Int} {N : Nat} (h : geoOK size N = true) : fmtN size N + 2 ≤ N ∧ N ≤ 4096 ∧ 1 ≤ fmtN size N := by
  obtain ⟨h8, n, hn, h1, h2⟩ := geo8 h
  obtain rfl : N = n := by omega
  obtain ⟨hp1, hp2, _⟩ := perOf_spec h8
  have hx : cutsN N (perOf size) ≤ (N + 55) / 56 := by
    unfold cutsN
    rw [Nat.div_le_iff_le_mul_add_pred (by omega)]
    have h3 : N + 55 < 56 * ((N + 55) / 56 + 1) := Nat.lt_mul_div_succ _ (by omega)
    have h4 : 56 * ((N + 55) / 56) ≤ perOf size * ((N + 55) / 56) := Nat.mul_le_mul_right _ hp1
    omega
  have h0 : 0 < cutsN N (perOf size) := by
    have := (cutsN_lt (n := N) (k := perOf size) (i := 0) (by omega)).2 (by omega)
    exact this
  unfold fmtN
  omega
theorem fmtC_length {N np : Nat} (h : np + 2 ≤ N) : (fmtC N np).length = N := by simp [fmtC]; omega
theorem fmtC_get {N np k : Nat} (h : np + 2 ≤ N) : (fmtC N np).getD k 0 = if k < np + 2 then 1 else 0 := by
  unfold fmtC
  rw [List.getD_eq_getElem?_getD]
  by_cases hk : k < np + 2
  · rw [if_pos hk, List.getElem?_append_left (by simp; omega), List.getElem?_replicate, if_pos (by omega)]
    rfl
  · rw [if_neg hk, List.getElem?_append_right (by simp; omega), List.getElem?_replicate]
    split <;> rfl
theorem fmtC_zero {N : Nat} (h : 2 ≤ N) : fmtC N 0 = newL N := by
  unfold fmtC newL
  rfl
theorem fmtC_take {N i : Nat} (h : i + 3 ≤ N) : takeN (fmtC N i) [] = i + 2 ∧ takeE (fmtC N i) [] = 0 ∧ takeL (fmtC N i) [] = fmtC N (i + 1) := by
  have hl := fmtC_length (N := N) (np := i) (by omega)
  have ht : takeI (fmtC N i) [] = i + 2 := by
    unfold takeI
    rw [hl]
    refine findIdx_is (by omega) (freeAt_iff.2 ⟨?_, by simp⟩) (fun j hj => ?_)
    · rw [fmtC_get (by omega), if_neg (by omega)]
    · cases hq : freeAt (fmtC N i) [] j with
      | false => rfl
      | true =>
        have := (freeAt_iff.1 hq).1
        rw [fmtC_get (by omega), if_pos (by omega)] at this
        cases this
  refine ⟨?_, ?_, ?_⟩
  · unfold takeN; rw [ht, if_pos (by omega)]
  · unfold takeE; rw [ht, if_pos (by omega)]
  · unfold takeL
    rw [ht, if_pos (by omega)]
    refine list_ext_getD (by rw [List.length_set, hl, fmtC_length (by omega)]) (fun k => ?_)
    rw [getD_setN, fmtC_get (by omega), fmtC_get (by omega), hl]
    by_cases hk : i + 2 = k
    · subst hk
      rw [if_pos ⟨rfl, by omega⟩, if_pos (by omega)]
    · rw [if_neg (fun e => hk e.1)]
      by_cases hk2 : k < i + 2
      · rw [if_pos hk2, if_pos (by omega)]
      · rw [if_neg hk2, if_neg (by omega)]
theorem fmtP_succ (i : Nat) : fmtP (i + 1) = fmtP i ++ [i + 2] := by simp [fmtP, List.range_succ]
theorem fmtP_length (i : Nat) : (fmtP i).length = i := by simp [fmtP]
theorem fmtS_fits {size : Int} {N : Nat} (h : geoOK size N = true) : (fmtS size N).Fits := by
  have hd := geo_dims h
  have := fmtN_le h
  refine ⟨by show 1 < _; omega, by show _ ≤ size ∧ size < _; omega, by show _ ≤ (N : Int) ∧ (N : Int) < _; omega, by show 0 < _; omega, fun p hp => ?_⟩
  have hp : p ∈ fmtP (fmtN size N) := hp
  unfold fmtP at hp
  obtain ⟨i, hi, rfl⟩ := List.mem_map.1 hp
  have := List.mem_range.1 hi
  omega
theorem commitD_dim (d : Dev) (c : List Nat) (s : Sup) (slot : Int) : (commitD d c s slot).1.size = d.size ∧ (commitD d c s slot).1.blocks = d.blocks := by
  have h1 := wrL_dim (pgFs s.gen s.pages (pagesL c (perOf d.size))) d
  have h2 := flush_dim (wrL d (pgFs s.gen s.pages (pagesL c (perOf d.size)))).1
  have h3 := write_dim (wrL d (pgFs s.gen s.pages (pagesL c (perOf d.size)))).1.flush.1 slot (mkB (putS s).1)
  have h4 := flush_dim ((wrL d (pgFs s.gen s.pages (pagesL c (perOf d.size)))).1.flush.1.write slot (mkB (putS s).1)).1
  unfold commitD
  split
  · exact ⟨h1.1, h1.2.1⟩
  split
  · exact ⟨h2.1.trans h1.1, h2.2.1.trans h1.2.1⟩
  split
  · exact ⟨h2.1.trans h1.1, h2.2.1.trans h1.2.1⟩
  split
  · exact ⟨h3.1.trans (h2.1.trans h1.1), h3.2.1.trans (h2.2.1.trans h1.2.1)⟩
  · exact ⟨h4.1.trans (h3.1.trans (h2.1.trans h1.1)), h4.2.1.trans (h3.2.1.trans (h2.2.1.trans h1.2.1))⟩
theorem format_calls {w : World} {db : Nat} {d : Dev} {Fd : Nat → Prop} (h : DevAt w db d Fd) (hpen : d.pen.length ≤ 800000) :
    Calls Tryz.prog 10 #[.pointer (some ⟨db, 0, none⟩)] w (Ret fun v w' => ((formatD d).2 ≠ 0 ∧ v = .tuple #[.pointer none, .int .i64 (formatD d).2] ∧ Step w db Fd (formatD d).1 w') ∨
      ((formatD d).2 = 0 ∧ ∃ b F, v = .tuple #[.pointer (some ⟨b, 0, none⟩), .int .i64 0] ∧ SpAt w' b db (formatS d) F ∧ w.heap.size ≤ b ∧ (∀ k, F k → Fd k ∨ w.heap.size ≤ k) ∧ Only Fd w w')) := by
  have hgeo := h.ok.geo
  obtain ⟨h8, N, hN, hN8, hNm⟩ := geo8 hgeo
  have hNt : d.blocks.toNat = N := by omega
  have hg' : geoOK d.size (N : Int) = true := by rw [← hN]; exact hgeo
  obtain ⟨hnp1, hnp2, hnp3⟩ := fmtN_le hg'
  have hdim := geo_dims hgeo
  have hFlt := h.lt
  have hff := fmtS_fits hg'
  apply calls10
  unfold S10 formatD
  rw [hNt]
  refine splitW_f (by rfl) ?_
  refine callW_of (geo_calls h) ?_
  rintro _ w1 ⟨rfl, he1⟩
  refine ⟨(d.size, d.blocks, ()), rfl, ?_⟩
  refine callW_of (new_calls w1 d.size d.blocks) ?_
  rintro _ w2 ⟨y, rfl, hc2, he2⟩
  rw [if_pos hgeo] at hc2
  obtain ⟨cb, cr, rfl, hc2, hcb, hcr⟩ := hc2
  refine ⟨(some ⟨cb, 0, none⟩, (if geoOK d.size d.blocks then 0 else 2), ()), rfl, ?_⟩
  rw [if_pos hgeo]
  dsimp only
  refine splitW_f (by rfl) ?_
  rw [hNt, ← fmtC_zero (by omega)] at hc2
  have he := he1.trans he2
  refine callW_of (geo_calls (h.ext he)) ?_
  rintro _ w3 ⟨rfl, he3⟩
  refine ⟨(d.size, d.blocks, ()), rfl, ?_⟩
  have he3' := he.trans he3
  refine boxedS (s := ⟨1, d.size, d.blocks, 0, []⟩) (x := (none, 0, 0)) (by rfl) (fun r4 w4 hb4 he4 hr4 => ?_)
  have he4' := he3'.trans he4
  refine callW_of (geo_calls (h.ext he4')) ?_
  rintro _ w5 ⟨rfl, he5⟩
  refine ⟨(d.size, d.blocks, ()), rfl, ?_⟩
  refine callW_of (spages_calls w5 d.size d.blocks) ?_
  rintro _ w6 ⟨rfl, he6⟩
  rw [hN, spages_geo hg']
  refine ⟨_, rfl, ?_⟩
  have he46 := he5.trans he6
  have he6' := he4'.trans he46
  have hb6 := hb4.ext he46
  have hc6 := ((hc2.ext he3).ext he4).ext he46
  have hr4lt : r4 < w6.heap.size := hb6.lt
  have hcblt : cb < w3.heap.size := (hc2.ext he3).head.lt
  have hcrlt : cr < w3.heap.size := (hc2.ext he3).row.lt
  have hs1 := he1.size
  have hs3 := he3.size
  have hs2 := he2.size
  rw [hN] at hb6
  show loopW _ _ _ w6
  have hnpe : fmtN d.size N = cutsN N (perOf d.size) := rfl
  rw [← hnpe]
  refine loopW_i (fun y w' => ∃ (i : Nat) (A : Option Addr) (c : Nat), i ≤ fmtN d.size N ∧ y = ((i : Int), ()) ∧ Ext w w' ∧ w6.heap.size ≤ w'.heap.size ∧ Cnt w' cb cr d.size [] (fmtC N i) ∧ Blk w' r4 (sV ⟨1, d.size, (N : Int), 0, []⟩ (A, i, c)) 78 ∧ Owni (numE .u32) 35 w' w6.heap.size A i c (fmtP i)) (fun y => (fmtN d.size N - y.1).toNat)
    ⟨0, none, 0, by omega, rfl, he6', Nat.le_refl _, hc6, hb6, Owni.nil _ _ _⟩ ?_
  rintro _ w7 ⟨i, A, c, hi, rfl, he7, hz7, hc7, hb7, ho7⟩
  dsimp only
  by_cases hlt : i < fmtN d.size N
  · refine splitW_t (decide_eq_true (by omega)) ?_
    obtain ⟨t1, t2, t3⟩ := fmtC_take (N := N) (i := i) (by omega)
    refine callW_of (take_calls hc7 (.inl ⟨rfl, rfl⟩)) ?_
    rintro _ w8 ⟨rfl, hc8, hg8⟩
    rw [t3] at hc8
    refine ⟨(((takeN (fmtC N i) [] : Nat) : Int), takeE (fmtC N i) [], ()), rfl, ?_⟩
    rw [t1, t2]
    refine splitW_f (by rfl) ?_
    have hb8 := hb7.grown hg8 (by simp; omega)
    have ho8 := ho7.grown hg8 (fun j hj e => by injection hj with hj; subst hj; have := ho7.row _ e; omega)
    refine boxF (l := .slc) 4 (A, i, c) hb8 (by rfl) ?_
    dsimp only
    have hle := ho8.le
    refine append_newi (E := numE .u32) (ys := [i + 2]) (by rfl) rfl elem_u32 ho8 (by have := hg8.size; omega) (by omega) (by omega) ?_
    intro A' c' w9 ho9 hg9
    have hx9 : ∀ j, orow A = some j → w6.heap.size ≤ j := fun j hj => ho8.row j hj
    have hb9 := hb8.grown hg9.grown (fun e => by have := hx9 r4 e.symm; omega)
    have hc9 : Cnt w9 cb cr d.size [] (fmtC N (i + 1)) := ⟨hc8.head.grown hg9.grown (fun e => by have := hx9 cb e.symm; have := he4.size; have := he46.size; omega), hc8.row.grown hg9.grown (fun e => by have := hx9 cr e.symm; have := he4.size; have := he46.size; omega), hc8.ne, hc8.len, hc8.fits⟩
    have he9 : Ext w w9 := (he7.grown hg8 (fun j hj => by injection hj with hj; omega)).grown hg9.grown (fun j hj => by have := hx9 j hj; have := he6'.size; omega)
    rw [add_mk]
    refine stW_blk hb9 (by show 0 + 4 < 5; omega) ?_
    have hg10 := set_grown w9 r4 (0 + 4) (.slice A' (i + 1) c')
    have hb10 := hb9.set (0 + 4) (.slice A' (i + 1) c')
    refine ⟨⟨i + 1, A', c', by omega, by rw [wrap_i64 (by omega) (by omega)]; rfl, he9.grown hg10 (fun j hj => by injection hj with hj; omega), ?_, hc9.kept hg10 (by omega) (by omega), hb10, ?_⟩, by rw [wrap_i64 (by omega) (by omega)]; omega⟩
    · exact Nat.le_trans (Nat.le_trans (Nat.le_trans hz7 hg8.size) hg9.grown.size) hg10.size
    · rw [fmtP_succ]
      exact ho9.grown hg10 (fun j hj e => by injection hj with hj; have := ho9.row _ e; omega)
  obtain rfl : i = fmtN d.size N := by omega
  refine splitW_f (decide_eq_false (by omega)) ?_
  have hb7 : Blk w7 r4 (sV (fmtS d.size N) (A, fmtN d.size N, c)) 78 := hb7
  have hpg7 : Pg w7 (A, fmtN d.size N, c) (fmtS d.size N).pages := ⟨ho7.sl, ho7.le.1⟩
  have stay : ∀ {w' : World}, Ext w w' → Step w db Fd d w' := fun e => ⟨Fd, h.ext e, fun k hk => .inl hk, Only.of_ext e⟩
  refine boxA (ls := sLs) (sT (fmtS d.size N) (A, fmtN d.size N, c)) hb7 rfl ?_
  refine callW_of (check_calls hff hpg7) ?_
  rintro _ w8 ⟨rfl, he8⟩
  refine ⟨_, rfl, ?_⟩
  have he8' := he7.trans he8
  refine splitW_i (fun hq => ?_) (fun hq => ?_)
  · have hq := bne_iff_ne.1 hq
    rw [if_pos hq]
    exact .inl ⟨hq, rfl, stay he8'⟩
  have hq0 := bne_eq_false_iff_eq.1 hq
  rw [if_neg (fun hh => hh hq0)]
  refine callW_of (geo_calls (h.ext he8')) ?_
  rintro _ w9 ⟨rfl, he9⟩
  refine ⟨(d.size, d.blocks, ()), rfl, ?_⟩
  dsimp only
  obtain ⟨z, hz⟩ : ∃ z : Nat, d.size = (z : Int) := ⟨d.size.toNat, by omega⟩
  rw [hz]
  refine make_own (kl := .i64) (kc := .i64) (B := w9.heap.size) (z := .int .u8 0) (bytes := 1) elem_u8 (by rfl) (Nat.le_refl _) (by omega) (by omega) ?_
  intro w10 ho10 hg10
  have he10 : Ext w9 w10 := (Ext.refl w9).grown hg10 (fun j hj => by cases hj)
  have hrep : (List.replicate z (Value.int .u8 0)) = bV (List.replicate z 0) := by simp [bV]
  rw [hrep] at ho10
  refine conv_str (e := 5) (by kernel_rfl) (by kernel_rfl) (by kernel_rfl) ho10.sl ?_
  have hzb : (⟨(List.replicate z (0 : UInt8)).toArray⟩ : ByteArray) = zeroB d.size.toNat := by rw [hz]; rfl
  rw [hzb]
  have he810 := he9.trans he10
  have he10' := he8'.trans he810
  refine callW_of (write_calls (h.ext he10') 1 (zeroB d.size.toNat) (by omega)) ?_
  rintro _ w11 ⟨rfl, hst⟩
  refine ⟨_, rfl, ?_⟩
  rw [← hz]
  refine splitW_i (fun hq => ?_) (fun hq => ?_)
  · have hq := bne_iff_ne.1 hq
    rw [if_pos hq]
    exact .inl ⟨hq, rfl, Step.pre (Only.of_ext he10') (fun k hk => .inl hk) hst⟩
  have hq1 := bne_eq_false_iff_eq.1 hq
  rw [if_neg (fun hh => hh hq1)]
  obtain ⟨F11, k1, k2, k3⟩ := hst
  have hwd := write_dim d 1 (zeroB d.size.toNat)
  have hFd : ∀ j, w.heap.size ≤ j → ¬ Fd j := fun j hj hf => by have := hFlt j hf; omega
  have he78 : Ext w7 w10 := he8.trans he810
  have he4s := he4.size
  have he46s := he46.size
  have hw6 := he6'.size
  have hb11 := (hb7.ext he78).only k3 (hFd r4 (by omega))
  have hc11 := (hc7.ext he78).only k3 (hFd cb (by omega)) (hFd cr (by omega))
  have hArow : ∀ a, A = some a → w6.heap.size ≤ a.block := fun a ha => ho7.row _ (by rw [ha]; rfl)
  have hArow2 : ∀ a, A = some a → a.block < w7.heap.size := fun a ha => ho7.row_lt _ (by rw [ha]; rfl)
  have hp11 : Pg w11 (A, fmtN d.size N, c) (fmtS d.size N).pages := ⟨(hpg7.sl.ext he78).only k3 (fun a ha => hFd _ (by have := hArow a ha; omega)), hpg7.nc⟩
  have h710 : w7.heap.size ≤ w10.heap.size := he78.size
  have o11 : Only Fd w w11 := Only.trans (Only.of_ext he10') k3 (fun j hj => .inl hj)
  have hF11w : ∀ k, F11 k → Fd k ∨ w.heap.size ≤ k := fun k hk => by
    rcases k2 k hk with e | e
    · exact .inl e
    · exact .inr (Nat.le_trans he10'.size e)
  have hF11 : ∀ j, w.heap.size ≤ j → j < w10.heap.size → ¬ F11 j := fun j h1 h2 hf => by
    rcases k2 j hf with e | e
    · exact hFd j h1 e
    · omega
  refine boxA (ls := sLs) (sT (fmtS d.size N) (A, fmtN d.size N, c)) hb11 rfl ?_
  have hfl := fmtC_length (N := N) (np := fmtN d.size N) hnp1
  refine callW_of (commit_calls k1 (c := fmtC N (fmtN d.size N)) (by rw [hwd.1]; exact hc11) hff hp11 (fun a ha => hF11 _ (by have := hArow a ha; omega) (by have := hArow2 a ha; omega)) (by rw [hwd.1, hfl]; exact fmtP_length _) (by omega) 0) ?_
  rintro _ w12 ⟨rfl, hst⟩
  refine ⟨_, rfl, ?_⟩
  refine splitW_i (fun hq => ?_) (fun hq => ?_)
  · have hq := bne_iff_ne.1 hq
    exact .inl ⟨hq, rfl, Step.pre o11 hF11w hst⟩
  have hq2 := bne_eq_false_iff_eq.1 hq
  obtain ⟨F12, m1, m2, m3⟩ := hst
  have hF12 : ∀ j, w.heap.size ≤ j → j < w10.heap.size → ¬ F12 j := fun j h1 h2 hf => by
    rcases m2 j hf with e | e
    · exact hF11 j h1 h2 e
    · have := k3.2.2.2.1; omega
  have hF12w : ∀ k, F12 k → Fd k ∨ w.heap.size ≤ k := fun k hk => by
    rcases m2 k hk with e | e
    · exact hF11w k e
    · exact .inr (Nat.le_trans o11.2.2.2.1 e)
  have h4r : r4 < w10.heap.size := by omega
  have hb12 := hb11.only m3 (hF11 r4 (by omega) (by omega))
  have hc12 := hc11.only m3 (hF11 cb (by omega) (by omega)) (hF11 cr (by omega) (by omega))
  have hp12 : Pg w12 (A, fmtN d.size N, c) (fmtS d.size N).pages := ⟨hp11.sl.only m3 (fun a ha => hF11 _ (by have := hArow a ha; omega) (by have := hArow2 a ha; omega)), hp11.nc⟩
  have o12 : Only Fd w w12 := Only.trans o11 m3 hF11w
  refine draw_i fun w13 he13 hs13 _ => ?_
  refine boxA (ls := sLs) (sT (fmtS d.size N) (A, fmtN d.size N, c)) (hb12.ext he13) rfl ?_
  refine callW_of (cntclone_calls (hc12.ext he13)) ?_
  rintro _ w14 ⟨⟨b2, r2, q2, rfl, hc14, hb2, hr2⟩, he14⟩
  refine ⟨some ⟨b2, 0, none⟩, rfl, ?_⟩
  have he1314 := he13.trans he14
  have hb14 := hb12.ext he1314
  refine ⟨fun l hl p hp => ?_, ?_⟩
  · simp only [List.mem_singleton] at hl
    subst hl
    simp only [List.mem_cons, List.not_mem_nil, or_false] at hp
    rcases hp with rfl | rfl | rfl | rfl | rfl
    · exact (hb14.cell 0).trans rfl
    · exact (hb14.cell 1).trans rfl
    · exact (hb14.cell 2).trans rfl
    · exact (hb14.cell 3).trans rfl
    · exact (hb14.cell 4).trans rfl
  refine new_i fun r23 w15 hb15 he15 hr15 hz15 => ?_
  have hx15 := he1314.trans he15
  have o15 : Only Fd w w15 := Only.trans o12 (Only.of_ext (F := Fd) hx15) (fun j hj => .inl hj)
  have hcD := hc14.head.lt
  have hcD2 := hc14.row.lt
  have hm1lt := m1.lt
  have h1012 : w10.heap.size ≤ w12.heap.size := Nat.le_trans k3.2.2.2.1 m3.2.2.2.1
  have hs14 := he14.size
  have hne := hc2.ne
  have hne2 := hc14.ne
  have es : (commitD (d.write 1 (zeroB d.size.toNat)).1 (fmtC N (fmtN d.size N)) (fmtS d.size N) 0).1.size = d.size ∧ (commitD (d.write 1 (zeroB d.size.toNat)).1 (fmtC N (fmtN d.size N)) (fmtS d.size N) 0).1.blocks = d.blocks := by
    have := commitD_dim (d.write 1 (zeroB d.size.toNat)).1 (fmtC N (fmtN d.size N)) (fmtS d.size N) 0
    exact ⟨this.1.trans hwd.1, this.2.trans hwd.2.1⟩
  have eF : formatS d = ⟨(commitD (d.write 1 (zeroB d.size.toNat)).1 (fmtC N (fmtN d.size N)) (fmtS d.size N) 0).1, fmtS d.size N, 0, fmtC N (fmtN d.size N), fmtC N (fmtN d.size N), none⟩ := by
    unfold formatS formatD
    rw [hNt, if_neg (fun hh => hh hq0), if_neg (fun hh => hh hq1)]
  refine .inr ⟨hq2, r23, fun k => F12 k ∨ k ∈ spOwn r23 cb cr b2 r2 (A, fmtN d.size N, c) none, rfl, ?_, by omega, ?_, o15⟩
  · rw [eF]
    have hA2 : ∀ k, k ∈ rowL (A, fmtN d.size N, c) → w6.heap.size ≤ k ∧ k < w7.heap.size := by
      intro k hk
      unfold rowL at hk
      cases A with
      | none => simp at hk
      | some a =>
        simp only [Option.map_some, Option.toList_some, List.mem_singleton] at hk
        subst hk
        exact ⟨hArow a rfl, hArow2 a rfl⟩
    have hrn : (rowL (A, fmtN d.size N, c)).Nodup := by
      unfold rowL
      cases A <;> simp
    refine ⟨F12, (A, fmtN d.size N, c), cb, cr, b2, r2, none, ⟨⟨_, by exact hb15⟩, m1.ext hx15, hp12.ext hx15, ⟨[], hc12.ext hx15⟩, ⟨q2, hc14.ext he15⟩, trivial, fun _ => Iff.rfl, ?_, ?_, ?_, ⟨es.1.symm, ?_, hff, ?_, ?_, fun l hl => by cases hl⟩⟩⟩
    · simp only [spOwn, mkBl, List.append_nil, List.nodup_cons, List.mem_cons, not_or]
      refine ⟨⟨by omega, by omega, by omega, by omega, fun hk => by have := hA2 _ hk; omega⟩, ⟨hne, by omega, by omega, fun hk => by have := hA2 _ hk; omega⟩, ⟨by omega, by omega, fun hk => by have := hA2 _ hk; omega⟩, ⟨hne2, fun hk => by have := hA2 _ hk; omega⟩, fun hk => by have := hA2 _ hk; omega, hrn⟩
    · intro k hk hf
      have hkl := hm1lt k hf
      simp only [spOwn, mkBl, List.append_nil, List.mem_cons] at hk
      rcases hk with rfl | rfl | rfl | rfl | rfl | hk
      · omega
      · exact hF12 _ (by omega) (by omega) hf
      · exact hF12 _ (by omega) (by omega) hf
      · omega
      · omega
      · have := hA2 k hk
        exact hF12 _ (by omega) (by omega) hf
    · intro k hk
      have := hA2 k hk
      have := hx15.size
      omega
    · show (N : Int) = _
      rw [es.2, hN]
    · show (fmtC N (fmtN d.size N)).length = ((N : Int)).toNat
      rw [hfl]; omega
    · show (fmtC N (fmtN d.size N)).length = ((N : Int)).toNat
      rw [hfl]; omega
  · rintro k (hk | hk)
    · exact hF12w k hk
    · right
      simp only [spOwn, mkBl, List.append_nil, List.mem_cons] at hk
      rcases hk with rfl | rfl | rfl | rfl | rfl | hk
      · omega
      · omega
      · omega
      · omega
      · omega
      · unfold rowL at hk
        cases A with
        | none => simp at hk
        | some a =>
          simp only [Option.map_some, Option.toList_some, List.mem_singleton] at hk
          subst hk
          have := hArow a rfl
          omega
end Go.Proofs.YtjdmggaeagnolaaGreat.V
/- Ranges over functions that make new blocks, and change their own, between what they yield. -/
set_option linter.unusedVariables false
set_option linter.unusedSimpArgs false
namespace Go.Proofs.YtjdmggaeagnolaaGreat.V
open Go
theorem Only.setO {F : Nat → Prop} {w : World} {a : Nat} {o : Obj} (h : F a) : Only F w (setO w a o) :=
  ⟨rfl, rfl, rfl, by rw [setO_size]; exact Nat.le_refl _, fun k _ hk => setO_other (fun e => hk (by rw [← e]; exact h))⟩
theorem Only.mono {F G : Nat → Prop} {w w' : World} (h : Only F w w') (hF : ∀ k, F k → G k) : Only G w w' := ⟨h.1, h.2.1, h.2.2.1, h.2.2.2.1, fun k hk hg => h.2.2.2.2 k hk (fun e => hg (hF k e))⟩
theorem Only.same {F : Nat → Prop} {a : Nat} {w w' : World} (h : SameBut a (a + 1) w w') (h1 : F a) (h2 : F (a + 1)) : Only F w w' :=
  ⟨h.1, h.2.1, h.2.2.1, Nat.le_of_eq h.2.2.2.1.symm, fun k _ hk => h.2.2.2.2 k (fun e => hk (e ▸ h1)) (fun e => hk (e ▸ h2))⟩
end Go.Proofs.YtjdmggaeagnolaaGreat.V
/- Contracts of the package space: refs. -/
set_option linter.unusedVariables false
set_option linter.unusedSimpArgs false
namespace Go.Proofs.YtjdmggaeagnolaaGreat.V
open Go Go.Proofs Go.RowKit Crc
theorem Sli.congr {α : Type} {E : Enc α} {w w' : World} {A : Option Addr} {n : Nat} {xs : List α} (h : Sli E w A n xs) (hs : ∀ a, A = some a → w'.heap[a.block]? = w.heap[a.block]?) : Sli E w' A n xs := by
  refine ⟨h.1, h.2.1, fun hn => ?_⟩
  obtain ⟨a, e1, e2, e3⟩ := h.2.2 hn
  refine ⟨a, e1, e2, fun j v hj => ?_⟩
  have hc := e3 j v hj
  have hab : (a.add j).block = a.block := by unfold Addr.add; split <;> rfl
  unfold World.cell? at hc ⊢
  rw [show w'.heap[(a.add j).block]? = w.heap[(a.add j).block]? by rw [hab]; exact hs a e1]
  exact hc
def boolV (l : List Bool) : List Value := l.map Value.bool
theorem boolV_set (l : List Bool) (i : Nat) (x : Bool) : (boolV l).set i (.bool x) = boolV (l.set i x) := by simp [boolV, List.map_set]
structure Refs (w : World) (b re r1 r2 r3 r8 r9 g : Nat) (x0 : SLC) (seen : List Bool) (e : Int) : Prop where
  b1 : Blk w r1 [.pointer (some ⟨b, 0, none⟩)] 24
  b2 : Blk w r2 [.slice x0.1 x0.2.1 x0.2.2] 38
  b3 : Blk w r3 [.pointer (some ⟨re, 0, none⟩)] 124
  b8 : Blk w r8 [.slice (some ⟨g, 0, none⟩) seen.length seen.length] 170
  b9 : ∃ t, Blk w r9 [.func (.func 108) #[] #[.pointer (some ⟨r1, 0, none⟩), .pointer (some ⟨r3, 0, none⟩), .pointer (some ⟨r8, 0, none⟩), .pointer (some ⟨r9, 0, none⟩)]] t
  row : Blk w g (boolV seen) 4
  err : Blk w re [.int .i64 e] 30
def QB (re r1 r2 r3 r8 r9 g : Nat) (k : Nat) : Prop := k = r1 ∨ k = r2 ∨ k = r3 ∨ k = r8 ∨ k = r9 ∨ k = g ∨ k = re
theorem Refs.at_ {w w' : World} {b re r1 r2 r3 r8 r9 g : Nat} {x0 : SLC} {seen : List Bool} {e : Int} (h : Refs w b re r1 r2 r3 r8 r9 g x0 seen e) (hs : ∀ k, QB re r1 r2 r3 r8 r9 g k → w'.heap[k]? = w.heap[k]?) : Refs w' b re r1 r2 r3 r8 r9 g x0 seen e := by
  obtain ⟨t, h9⟩ := h.b9
  exact ⟨h.b1.at_ (hs _ (.inl rfl)), h.b2.at_ (hs _ (.inr (.inl rfl))), h.b3.at_ (hs _ (.inr (.inr (.inl rfl)))), h.b8.at_ (hs _ (.inr (.inr (.inr (.inl rfl))))), ⟨t, h9.at_ (hs _ (.inr (.inr (.inr (.inr (.inl rfl)))))) ⟩, h.row.at_ (hs _ (.inr (.inr (.inr (.inr (.inr (.inl rfl))))))), h.err.at_ (hs _ (.inr (.inr (.inr (.inr (.inr (.inr rfl))))))) ⟩
structure RefsNe (re r1 r2 r3 r8 r9 g : Nat) : Prop where
  g : g ≠ r1 ∧ g ≠ r2 ∧ g ≠ r3 ∧ g ≠ r8 ∧ g ≠ r9 ∧ g ≠ re
  re : re ≠ r1 ∧ re ≠ r2 ∧ re ≠ r3 ∧ re ≠ r8 ∧ re ≠ r9
theorem Refs.mark {w : World} {b re r1 r2 r3 r8 r9 g : Nat} {x0 : SLC} {seen : List Bool} {e : Int} (h : Refs w b re r1 r2 r3 r8 r9 g x0 seen e) (hn : RefsNe re r1 r2 r3 r8 r9 g) (k : Nat) : Refs (w.setCell ⟨g, k, none⟩ (.bool true)) b re r1 r2 r3 r8 r9 g x0 (seen.set k true) e := by
  obtain ⟨t, h9⟩ := h.b9
  obtain ⟨n1, n2, n3, n4, n5, n6⟩ := hn.g
  refine ⟨h.b1.other n1 _, h.b2.other n2 _, h.b3.other n3 _, ?_, ⟨t, h9.other n5 _⟩, ?_, h.err.other n6 _⟩
  · rw [List.length_set]; exact h.b8.other n4 _
  · rw [← boolV_set]; exact h.row.set k _
section
variable {b db : Nat} {S : Spa} {F Fd : Nat → Prop} {x : SLC} {hb hr nb nr : Nat} {m : MkL}
end
end Go.Proofs.YtjdmggaeagnolaaGreat.V
/- Contracts of the package space: Walk, Audit. -/
set_option linter.unusedVariables false
set_option linter.unusedSimpArgs false
namespace Go.Proofs.YtjdmggaeagnolaaGreat.V
open Go Go.Proofs Go.RowKit Crc
variable {w w' : World} {b db : Nat} {S : Spa} {F Fd : Nat → Prop} {x : SLC} {hb hr nb nr : Nat} {m : MkL}
end Go.Proofs.YtjdmggaeagnolaaGreat.V
/- Contracts of the package space: Audit. -/
set_option linter.unusedVariables false
set_option linter.unusedSimpArgs false
namespace Go.Proofs.YtjdmggaeagnolaaGreat.V
open Go Go.Proofs Go.RowKit Crc
variable {w w' : World} {b db : Nat} {S : Spa} {F Fd : Nat → Prop} {x : SLC} {hb hr nb nr : Nat} {m : MkL}
end Go.Proofs.YtjdmggaeagnolaaGreat.V
/- Spaces that are well: what Put, Get, Drop, Audit come to. -/
set_option linter.unusedVariables false
set_option linter.unusedSimpArgs false
namespace Go.Proofs.YtjdmggaeagnolaaGreat.V
open Go Go.Proofs Go.RowKit Crc
structure Good (S : Spa) (R : List Nat) : Prop where
  ok : S.Ok
  dev : S.dev.Ok
  fuse : S.dev.fuse = -1
  gen : S.sup.gen < 1000000000000
  well : WellC S.N S.sup.pages S.page S.now R
theorem Good.dims {S : Spa} {R : List Nat} (h : Good S R) : SpDims S := by
  have hg := h.dev.geo
  rw [← h.ok.size, ← h.ok.blocks] at hg
  obtain ⟨g1, g2, g3, g4, g5⟩ := geo_room hg
  have : S.sup.blocks = (S.N : Int) := by unfold Spa.N; omega
  exact ⟨hg, g1, ⟨g2, g3⟩, this, by omega⟩
theorem Good.h01 {S : Spa} {R : List Nat} (h : Good S R) : S.now.getD 0 0 ≠ 0 ∧ S.now.getD 1 0 ≠ 0 := by
  have := h.well.head
  omega
theorem Good.perm {S : Spa} {R R' : List Nat} (h : Good S R) (hp : R.Perm R') : Good S R' := ⟨h.ok, h.dev, h.fuse, h.gen, h.well.perm hp⟩
theorem used_asked {S : Spa} {R : List Nat} (h : Good S R) {n : Nat} (hn : usedC S.sup.pages S.now n = true) : S.asked n = true ∧ S.now.getD n 0 ≠ 0 ∧ n < S.N := by
  obtain ⟨h1, h2, h3⟩ := usedC_iff.1 hn
  have := h.well.lt hn
  exact ⟨asked_iff.2 ⟨h1, this, h2⟩, by omega, this⟩
theorem Good.get {S : Spa} {R : List Nat} (h : Good S R) {n : Nat} (hn : usedC S.sup.pages S.now n = true) : S.get n = S.page n ∧ (S.page n).2 = 0 := by
  obtain ⟨h1, h2, h3⟩ := used_asked h hn
  refine ⟨?_, (h.well.good n hn).1⟩
  unfold Spa.get
  rw [if_neg (by rw [h1]; simp), if_neg h2]
/-! ### The device -/
theorem read_write {d : Dev} (h : d.Ok) {k j : Int} {s : ByteArray} (hk : 0 ≤ k ∧ k < d.blocks) (hs : (s.size : Int) = d.size) (hf : d.fuse ≠ 0) (hj : 0 ≤ j ∧ j < d.blocks) :
    (d.write k s).2 = 0 ∧ ((d.write k s).1.read j).1 = if j = k then s else (d.read j).1 := by
  unfold Dev.write
  rw [if_neg (by rintro (e | e); exact e hk; exact e hs), if_neg hf]
  refine ⟨rfl, ?_⟩
  unfold Dev.read
  dsimp only
  rw [if_neg (show ¬ ¬ (0 ≤ j ∧ j < d.burnt.blocks) from fun e => e hj), if_neg (show ¬ ¬ (0 ≤ j ∧ j < d.blocks) from fun e => e hj)]
  dsimp only
  rw [List.foldl_append]
  show ((List.foldl Go.Proofs.YtjdmggaeagnolaaGreat.V.put d.dur d.pen).set k.toNat s).getD j.toNat ByteArray.empty = _
  rw [getD_set]
  have hl := puts_len d.pen d.dur
  have hlen := h.len
  by_cases e : j = k
  · subst e
    rw [if_pos ⟨rfl, by rw [hl]; omega⟩, if_pos rfl]
  · rw [if_neg (fun e' => e (by omega)), if_neg e]
theorem write_ok {d : Dev} (h : d.Ok) {k : Int} {s : ByteArray} (hk : 0 ≤ k ∧ k < d.blocks) (hs : (s.size : Int) = d.size) (hf : d.fuse = -1) : (d.write k s).1.Ok ∧ (d.write k s).1.fuse = -1 ∧ (d.write k s).1.pen.length = d.pen.length + 1 := by
  unfold Dev.write
  rw [if_neg (by rintro (e | e); exact e hk; exact e hs), if_neg (by omega)]
  have hb := h.burnt
  refine ⟨⟨h.geo, h.len, h.each, fun p hp => ?_, hb.fuse⟩, ?_, by simp⟩
  · rcases List.mem_append.1 hp with hp | hp
    · exact h.pend p hp
    · rw [List.mem_singleton.1 hp]; exact ⟨hk.1, hk.2, hs⟩
  · show max (-1) (d.fuse - 1) = -1
    rw [hf]; decide
/-! ### Put -/
theorem preF_zero (S : Spa) : ∀ n, (∀ j, j < n → ¬ ((decide (2 ≤ j) && S.isFree j) = true)) → preF S n = []
  | 0, _ => rfl
  | n + 1, h => by
    rw [preF_succ, if_neg (h n (by omega)), preF_zero S n (fun j hj => h j (by omega))]
theorem freeL_mem {S : Spa} {n : Nat} : n ∈ S.freeL ↔ n < S.N ∧ 2 ≤ n ∧ S.isFree n = true := by
  unfold Spa.freeL
  rw [List.mem_filter, List.mem_range, Bool.and_eq_true, decide_eq_true_iff]
theorem takeI_free {S : Spa} {R : List Nat} (h : Good S R) (hf : 0 < S.freeN) : S.takeI < S.N ∧ 2 ≤ S.takeI ∧ S.isFree S.takeI = true ∧ (∀ j, j < S.takeI → S.isFree j = false) ∧ S.takeI ∉ S.sup.pages := by
  have hnow := h.ok.now
  obtain ⟨n, hn⟩ : ∃ n, n ∈ S.freeL := by
    unfold Spa.freeN at hf
    cases hq : S.freeL with
    | nil => rw [hq] at hf; simp at hf
    | cons a r => exact ⟨a, List.mem_cons_self⟩
  obtain ⟨h1, h2, h3⟩ := freeL_mem.1 hn
  have hlt : S.takeI < (List.range S.now.length).length := List.findIdx_lt_length_of_exists ⟨n, List.mem_range.2 (by omega), h3⟩
  rw [List.length_range] at hlt
  have hfr : S.isFree S.takeI = true := by
    have := List.findIdx_getElem (p := S.isFree) (xs := List.range S.now.length) (w := by rw [List.length_range]; exact hlt)
    rw [List.getElem_range] at this
    exact this
  obtain ⟨f1, f2, f3⟩ := isFree_iff.1 hfr
  have hhd := h.well.head
  refine ⟨by omega, ?_, hfr, fun j hj => ?_, fun hp => ?_⟩
  · rcases Nat.lt_or_ge S.takeI 2 with hh | hh
    · have : S.takeI = 0 ∨ S.takeI = 1 := by omega
      rcases this with e | e <;> rw [e] at f1 <;> omega
    · exact hh
  · have := List.not_of_lt_findIdx (p := S.isFree) (xs := List.range S.now.length) (i := j) hj
    rw [List.getElem_range] at this
    simpa using this
  · have := (h.well.pgs _ hp).2.2
    omega
/-- What a Put that goes well leaves. -/
structure PutOk (S S' : Spa) (p : Page) (n : Nat) : Prop where
  two : 2 ≤ n
  lt : n < S.N
  pgs : n ∉ S.sup.pages
  free : S.isFree n = true
  now : S'.now = S.now.set n 1
  sup : S'.sup = S.sup
  held : S'.held = S.held
  mark : S'.mark = S.mark
  slot : S'.slot = S.slot
  page : S'.page n = (p, 0)
  other : ∀ k, k ≠ n → k < S.N → S'.page k = S.page k
  pen : S'.dev.pen.length = S.dev.pen.length + 1
  freeL : S.freeL = n :: S'.freeL
  read : ∀ k : Int, 0 ≤ k → k < S.N → k ≠ n → (S'.dev.read k).1 = (S.dev.read k).1
  dim : S'.dev.size = S.dev.size ∧ S'.dev.blocks = S.dev.blocks
theorem freeL_take {S S' : Spa} {n : Nat} (hn : n < S.N) (h2 : 2 ≤ n) (hf : S.isFree n = true) (hno : ∀ j, j < n → S.isFree j = false) (hN : S'.N = S.N) (hf' : ∀ j, j < S.N → S'.isFree j = if j = n then false else S.isFree j) : S.freeL = n :: S'.freeL := by
  have key : ∀ k, k ≤ S.N → preF S k = if n < k then n :: preF S' k else preF S' k := by
    intro k
    induction k with
    | zero => intro _; rw [if_neg (by omega)]; rfl
    | succ k ih =>
      intro hk
      have ih := ih (by omega)
      rw [preF_succ, preF_succ, hf' k (by omega)]
      by_cases hkn : k = n
      · subst hkn
        have hA : (decide (2 ≤ k) && S.isFree k) = true := by rw [hf, decide_eq_true h2]; rfl
        have e1 : preF S k = [] := preF_zero S k (fun j hj hh => by rw [hno j hj] at hh; simp at hh)
        rw [if_neg (by omega)] at ih
        rw [if_pos hA, if_pos (Nat.lt_succ_self k), if_pos rfl, Bool.and_false, if_neg (by simp), ← ih, e1]
        rfl
      · rw [if_neg hkn]
        by_cases hlt : n < k
        · rw [if_pos hlt] at ih
          rw [if_pos (by omega : n < k + 1), ih]
          split <;> simp
        · rw [if_neg hlt] at ih
          rw [if_neg (by omega : ¬ n < k + 1), ih]
  have h1 := key S.N (Nat.le_refl _)
  rw [if_pos hn] at h1
  have e2 : preF S' S.N = S'.freeL := by unfold preF Spa.freeL; rw [hN]
  rw [e2] at h1
  exact h1
theorem put_good {S : Spa} {R : List Nat} {p : Page} (h : Good S (p.2.1 ++ R)) (ht : 3 ≤ p.1.toNat) (hk : (p.2.1.length : Int) ≤ S.room 0 / 4) (hd : (p.2.2.size : Int) ≤ S.room p.2.1.length) (hfree : S.sup.pages.length < S.freeN) :
    (S.put p).2.2 = 0 ∧ PutOk S (S.put p).1 p (S.put p).2.1 ∧ Good (S.put p).1 ((S.put p).2.1 :: R) := by
  have hdim := h.dims
  have hN := hdim.n
  have hsz := hdim.size
  have hroom := hdim.room
  have hr0 : S.room 0 = S.sup.size - 18 := by unfold Spa.room; rw [hroom, if_neg (by omega)]; omega
  have hrk : S.room p.2.1.length = S.sup.size - 18 - 4 * p.2.1.length := by unfold Spa.room; rw [hroom, if_neg (by omega)]; omega
  obtain ⟨t1, t2, t3, t4, t5⟩ := takeI_free h (by omega)
  obtain ⟨f1, f2, f3⟩ := isFree_iff.1 t3
  have hnow := h.ok.now
  have eN : S.takeN = S.takeI := by unfold Spa.takeN; rw [if_pos (by omega)]
  have eE : S.takeE = 0 := by unfold Spa.takeE; rw [if_pos (by omega)]
  have eL : S.takeL = S.now.set S.takeI 1 := by unfold Spa.takeL; rw [if_pos (by omega)]
  have hku : ∀ k ∈ p.2.1, usedC S.sup.pages S.now k = true := fun k hk => h.well.root k (List.mem_append_left _ hk)
  have hE0 : S.putE p = 0 := by
    unfold Spa.putE
    rw [if_neg, if_neg, if_neg, if_neg]
    · omega
    · rintro (e | e) <;> omega
    · rintro ⟨k, hk, e⟩
      exact (used_asked h (hku k hk)).2.1 e
    · rintro (e | e | ⟨k, hk, e⟩)
      · omega
      · omega
      · rw [(used_asked h (hku k hk)).1] at e; cases e
  have hpl : (pgB p).length = 2 + (4 * p.2.1.length + p.2.2.size) := by simp [pgB, le_length, wordsB_length, B_size]
  have hdz := h.ok.size
  have hdb := h.ok.blocks
  have hbl := hdim.blocks
  obtain ⟨z, hz⟩ : ∃ z : Nat, S.sup.size = (z : Int) := ⟨S.sup.size.toNat, by omega⟩
  have hfit : (pgB p).length + 16 ≤ z := by omega
  have hBp : (B (mkB (pgB p))).length = (pgB p).length := by rw [B_mkB]
  have hputR : putR S.dev.size (S.frame p) = (putB z (S.frame p), 0) := by
    unfold putR
    rw [← hdz, if_neg (by rw [hroom]; omega)]
    rw [if_neg (by show ¬ (((B (mkB (pgB p))).length : Int) > _); rw [hBp, hroom]; omega), hz]
    rfl
  have hbl2 : (putB z (S.frame p)).length = z := putB_length (by show (B (mkB (pgB p))).length + 16 ≤ z; rw [hBp]; exact hfit)
  have hws : (((mkB (putB z (S.frame p))).size : Nat) : Int) = S.dev.size := by rw [mkB_size, hbl2, ← hz, hdz]
  have hwf : writeF S.dev S.takeI (S.frame p) = S.dev.write S.takeI (mkB (putB z (S.frame p))) := by
    unfold writeF
    rw [hputR, if_neg (by simp)]
  have hk2 : 0 ≤ (S.takeI : Int) ∧ (S.takeI : Int) < S.dev.blocks := by omega
  have hfz := h.fuse
  obtain ⟨q1, q2, q3⟩ := write_ok h.dev hk2 hws hfz
  have hwe : (S.dev.write S.takeI (mkB (putB z (S.frame p)))).2 = 0 := (read_write h.dev hk2 hws (by omega) hk2).1
  have eput : S.put p = ({ S with now := S.now.set S.takeI 1, dev := (S.dev.write S.takeI (mkB (putB z (S.frame p)))).1 }, S.takeI, 0) := by
    unfold Spa.put
    rw [if_neg (by rw [hE0]; simp), if_neg (by rw [eE]; simp), eN, eL, hwf, if_neg (by rw [hwe]; simp)]
  rw [eput]
  dsimp only
  have hpg : ∀ k, k < S.N → Spa.page { S with now := S.now.set S.takeI 1, dev := (S.dev.write S.takeI (mkB (putB z (S.frame p)))).1 } k = if k = S.takeI then (p, 0) else S.page k := by
    intro k hkN
    unfold Spa.page
    dsimp only
    have hrw := (read_write h.dev hk2 hws (by omega) (j := (k : Int)) (by omega)).2
    show pageR S.N (B ((S.dev.write S.takeI (mkB (putB z (S.frame p)))).1.read k).1) = _
    rw [hrw]
    by_cases e : k = S.takeI
    · subst e
      rw [if_pos rfl, if_pos rfl, B_mkB]
      have hg := h.gen
      refine pageR_putB (by rw [← hz]; exact hroom) (by omega) (by omega) hfit (by omega) ht (fun n hn => ?_) hN.2
      obtain ⟨a1, a2, a3⟩ := usedC_iff.1 (hku n hn)
      exact ⟨a1, h.well.lt (hku n hn)⟩
    · rw [if_neg (by omega), if_neg e]
  have hdim2 := write_dim S.dev S.takeI (mkB (putB z (S.frame p)))
  have hwell : WellC S.N S.sup.pages (Spa.page { S with now := S.now.set S.takeI 1, dev := (S.dev.write S.takeI (mkB (putB z (S.frame p)))).1 }) (S.now.set S.takeI 1) (S.takeI :: R) := by
    refine WellC.put (ks := p.2.1) h.well t2 t1 t5 f1 ?_ ?_ (fun k hk hkN => ?_)
    · rw [hpg _ t1, if_pos rfl]
    · unfold kidsP; rw [hpg _ t1, if_pos rfl]
    · rw [hpg k hkN, if_neg hk]
  refine ⟨rfl, ⟨t2, t1, t5, t3, rfl, rfl, rfl, rfl, rfl, by rw [hpg _ t1, if_pos rfl], fun k hk hkN => by rw [hpg k hkN, if_neg hk], q3, ?_, fun k h0 hkN hne => by
    show ((S.dev.write S.takeI (mkB (putB z (S.frame p)))).1.read k).1 = _
    rw [(read_write h.dev hk2 hws (by omega) (j := k) (by omega)).2, if_neg hne], ⟨hdim2.1, hdim2.2.1⟩⟩, ⟨⟨?_, ?_, h.ok.fits, h.ok.held, ?_, h.ok.mark⟩, q1, q2, h.gen, hwell⟩⟩
  · refine freeL_take t1 t2 t3 t4 rfl (fun j hj => ?_)
    rw [Bool.eq_iff_iff, isFree_iff]
    dsimp only
    rw [getD_setN]
    by_cases e : j = S.takeI
    · subst e
      rw [if_pos ⟨rfl, by omega⟩, if_pos rfl]
      simp
    · rw [if_neg (fun e' => e e'.1.symm), if_neg e, isFree_iff]
  · exact hdz.trans hdim2.1.symm
  · exact hdb.trans hdim2.2.1.symm
  · show (S.now.set S.takeI 1).length = _
    rw [List.length_set]
    exact hnow
end Go.Proofs.YtjdmggaeagnolaaGreat.V
/- Spaces that are well: Share, Drop, Audit. -/
set_option linter.unusedVariables false
set_option linter.unusedSimpArgs false
namespace Go.Proofs.YtjdmggaeagnolaaGreat.V
open Go Go.Proofs Go.RowKit Crc
theorem Good.setNow {S : Spa} {R R' : List Nat} {c : List Nat} (h : Good S R) (hl : c.length = S.now.length) (hw : WellC S.N S.sup.pages S.page c R') : Good { S with now := c } R' :=
  ⟨⟨h.ok.size, h.ok.blocks, h.ok.fits, h.ok.held, hl.trans h.ok.now, h.ok.mark⟩, h.dev, h.fuse, h.gen, hw⟩
theorem share_good {S : Spa} {R : List Nat} {n : Nat} (h : Good S R) (hn : usedC S.sup.pages S.now n = true) (h6 : S.now.getD n 0 < 65535) : (S.share n).2 = 0 ∧ Good (S.share n).1 (n :: R) ∧ (S.share n).1 = { S with now := S.now.set n (S.now.getD n 0 + 1) } := by
  obtain ⟨h1, h2, h3⟩ := used_asked h hn
  have ha := atE_used h.well hn
  have e1 : addE S.now n = 0 := by unfold addE; rw [if_pos ha, if_neg (by omega)]
  have e2 : addL S.now n = S.now.set n (S.now.getD n 0 + 1) := by unfold addL; rw [if_pos e1]
  unfold Spa.share
  rw [if_neg (by rw [h1]; simp), e1, e2]
  exact ⟨rfl, h.setNow (by simp) (h.well.share hn), rfl⟩
theorem drop_good {S : Spa} {R : List Nat} {n : Nat} (h : Good S (n :: R)) : ∃ c', Drp S.asked S.page S.now [n] c' 0 ∧ Good { S with now := c' } R ∧ c'.length = S.now.length ∧ ∀ k, c'.getD k 0 ≤ S.now.getD k 0 := by
  obtain ⟨c', h1, h2, h3, h4⟩ := WellC.drop (N := S.N) (ps := S.sup.pages) (pg := S.page) (ask := S.asked) (fun n a1 a2 a3 => asked_iff.2 ⟨a1, a2, a3⟩) S.now.sum [n] (Nat.le_refl _) (R := R) h.well
  exact ⟨c', h1, h.setNow h3 h2, h3, h4⟩
theorem sum_congr {f g : Nat → Nat} {N : Nat} (h : ∀ m, m < N → f m = g m) : ((List.range N).map f).sum = ((List.range N).map g).sum := by
  congr 1
  exact List.map_congr_left (fun m hm => h m (List.mem_range.1 hm))
theorem sum_zeros : ∀ N : Nat, ((List.range N).map fun _ => 0).sum = 0
  | 0 => rfl
  | N + 1 => by
    rw [List.range_succ, List.map_append, List.sum_append, sum_zeros N]
    rfl
theorem sum_le' {f : Nat → Nat} {B : Nat} : ∀ N, (∀ m, m < N → f m ≤ B) → ((List.range N).map f).sum ≤ N * B
  | 0, _ => by simp
  | N + 1, h => by
    have := sum_le' (f := f) (B := B) N (fun m hm => h m (by omega))
    have := h N (by omega)
    simp only [List.range_succ, List.map_append, List.map_cons, List.map_nil, List.sum_append, List.sum_cons, List.sum_nil]
    rw [Nat.add_mul]
    omega
end Go.Proofs.YtjdmggaeagnolaaGreat.V
/- Spaces that are well: commit, Format. -/
set_option linter.unusedVariables false
set_option linter.unusedSimpArgs false
namespace Go.Proofs.YtjdmggaeagnolaaGreat.V
open Go Go.Proofs Go.RowKit Crc
structure DevG (d : Dev) : Prop where
  ok : d.Ok
  fuse : d.fuse = -1
theorem Dev.Ok.facts {d : Dev} (h : d.Ok) : ∃ z N : Nat, d.size = (z : Int) ∧ d.blocks = (N : Int) ∧ roomOf d.size = (z : Int) - 16 ∧ 128 ≤ z ∧ z ≤ 4096 ∧ 8 ≤ N ∧ N ≤ 4096 ∧ roomOf d.size = ((2 * perOf d.size : Nat) : Int) := by
  obtain ⟨g1, g2, g3, g4, g5⟩ := geo_room h.geo
  obtain ⟨h8, _⟩ := geo8 h.geo
  have h4 := room_per h8
  exact ⟨d.size.toNat, d.blocks.toNat, by omega, by omega, by omega, by omega, by omega, by omega, by omega, h4⟩
theorem writeF_good {d : Dev} (h : DevG d) {k : Nat} {f : Fra} (hk : (k : Int) < d.blocks) (hf : ((B f.2.2).length : Int) ≤ roomOf d.size) :
    (writeF d k f).2 = 0 ∧ DevG (writeF d k f).1 ∧ (∀ j : Int, 0 ≤ j ∧ j < d.blocks → ((writeF d k f).1.read j).1 = if j = k then mkB (putB d.size.toNat f) else (d.read j).1) := by
  obtain ⟨z, N, e1, e2, e3, e4, e5, e6, e7, e8⟩ := h.ok.facts
  have hputR : putR d.size f = (putB z f, 0) := by
    unfold putR
    rw [if_neg (by omega), if_neg (by omega), e1]
    rfl
  have hl : (putB z f).length = z := putB_length (by omega)
  have hws : (((mkB (putB z f)).size : Nat) : Int) = d.size := by rw [mkB_size, hl, e1]
  have hwf : writeF d k f = d.write k (mkB (putB z f)) := by
    unfold writeF
    rw [hputR, if_neg (by simp)]
  have hk2 : 0 ≤ (k : Int) ∧ (k : Int) < d.blocks := by omega
  obtain ⟨q1, q2, q3⟩ := write_ok h.ok hk2 hws h.fuse
  rw [hwf]
  have hez : d.size.toNat = z := by omega
  rw [hez]
  exact ⟨(read_write h.ok hk2 hws (by rw [h.fuse]; decide) hk2).1, ⟨q1, q2⟩, fun j hj => (read_write h.ok hk2 hws (by rw [h.fuse]; decide) hj).2⟩
theorem flush_good {d : Dev} (h : DevG d) : d.flush.2 = 0 ∧ DevG d.flush.1 ∧ d.flush.1.pen = [] ∧ ∀ j : Int, (d.flush.1.read j).1 = (d.read j).1 := by
  have hok := h.ok
  have hb := hok.burnt
  have hf : max (-1) (d.fuse - 1) = -1 := by rw [h.fuse]; decide
  unfold Dev.flush
  rw [if_neg (by rw [h.fuse]; decide)]
  refine ⟨rfl, ⟨⟨hok.geo, ?_, puts_each _ _ hok.each (fun p hp => (hok.pend p hp).2.2), (fun p hp => by cases hp), hb.fuse⟩, hf⟩, rfl, fun j => rfl⟩
  show (((d.pen.foldl Go.Proofs.YtjdmggaeagnolaaGreat.V.put d.dur).length : Nat) : Int) = d.blocks
  rw [puts_len]
  exact hok.len
theorem wrL_good : ∀ (l : List (Nat × Fra)) (d : Dev), DevG d → (∀ p ∈ l, (p.1 : Int) < d.blocks ∧ ((B p.2.2.2).length : Int) ≤ roomOf d.size) →
    (wrL d l).2 = 0 ∧ DevG (wrL d l).1 ∧ (∀ j : Int, 0 ≤ j ∧ j < d.blocks → (∀ p ∈ l, (p.1 : Int) ≠ j) → ((wrL d l).1.read j).1 = (d.read j).1)
  | [], d, h, _ => ⟨rfl, h, fun _ _ _ => rfl⟩
  | kf :: r, d, h, hl => by
    obtain ⟨h1, h2⟩ := hl kf List.mem_cons_self
    obtain ⟨g1, g2, g3⟩ := writeF_good h h1 h2
    obtain ⟨d1, d2, d3⟩ := writeF_dim d kf.1 kf.2
    obtain ⟨k1, k2, k3⟩ := wrL_good r (writeF d kf.1 kf.2).1 g2 (fun p hp => by rw [d1, d2]; exact hl p (List.mem_cons_of_mem _ hp))
    unfold wrL
    rw [if_neg (fun hh => hh g1)]
    refine ⟨k1, k2, fun j hj hno => ?_⟩
    rw [k3 j (by rw [d2]; exact hj) (fun p hp => hno p (List.mem_cons_of_mem _ hp)), g3 j hj, if_neg (fun e => hno kf List.mem_cons_self e.symm)]
theorem pageB_len (l : List Nat) (per i : Nat) : (pageB l per i).length ≤ 2 * per := by
  unfold pageB
  have : ∀ l : List Nat, (l.flatMap (le 2)).length = 2 * l.length := by
    intro l
    induction l with
    | nil => rfl
    | cons a t ih => rw [List.flatMap_cons, List.length_append, ih, le_length, List.length_cons]; omega
  rw [this, List.length_take]
  omega
theorem commit_good {d : Dev} (h : DevG d) {c : List Nat} {s : Sup} {slot : Int} (hchk : chk s = 0) (hsz : s.size = d.size) (hps : ∀ p ∈ s.pages, 2 ≤ p ∧ (p : Int) < d.blocks) (hslot : slot = 0 ∨ slot = 1) :
    (commitD d c s slot).2 = 0 ∧ DevG (commitD d c s slot).1 ∧ (commitD d c s slot).1.pen = [] ∧ (∀ j : Int, 2 ≤ j ∧ j < d.blocks → (∀ p ∈ s.pages, (p : Int) ≠ j) → ((commitD d c s slot).1.read j).1 = (d.read j).1) := by
  obtain ⟨z, N, e1, e2, e3, e4, e5, e6, e7, e8⟩ := h.ok.facts
  have hL : ∀ p ∈ pgFs s.gen s.pages (pagesL c (perOf d.size)), p.1 ∈ s.pages ∧ ((B p.2.2.2).length : Int) ≤ roomOf d.size := by
    intro p hp
    unfold pgFs at hp
    obtain ⟨q, hq, rfl⟩ := List.mem_map.1 hp
    have h1 := (List.of_mem_zip hq).1
    have h2 := (List.of_mem_zip hq).2
    refine ⟨h1, ?_⟩
    unfold pagesL at h2
    obtain ⟨i, _, hi⟩ := List.mem_map.1 h2
    show ((B q.2).length : Int) ≤ _
    rw [← hi, B_mk]
    have := pageB_len c (perOf d.size) i
    omega
  obtain ⟨w1, w2, w3⟩ := wrL_good (pgFs s.gen s.pages (pagesL c (perOf d.size))) d h (fun p hp => ⟨(hps _ (hL p hp).1).2, (hL p hp).2⟩)
  obtain ⟨dm1, dm2, dm3⟩ := wrL_dim (pgFs s.gen s.pages (pagesL c (perOf d.size))) d
  obtain ⟨f1, f2, f3, f4⟩ := flush_good w2
  have fd := flush_dim (wrL d (pgFs s.gen s.pages (pagesL c (perOf d.size)))).1
  unfold commitD
  generalize (wrL d (pgFs s.gen s.pages (pagesL c (perOf d.size)))) = r at *
  have hp0 : (putS s).2 = 0 := by rw [putS_good hchk]
  have hpl := (putS_length hchk).1
  have hs2 : ((((mkB (putS s).1).size : Nat)) : Int) = r.1.flush.1.size := by rw [mkB_size, hpl, fd.1, dm1, hsz]
  have hsl : 0 ≤ slot ∧ slot < r.1.flush.1.blocks := by rw [fd.2.1, dm2]; omega
  obtain ⟨q1, q2, q3⟩ := write_ok f2.ok hsl hs2 f2.fuse
  have hrw := fun (j : Int) (hj : 0 ≤ j ∧ j < r.1.flush.1.blocks) => read_write f2.ok hsl hs2 (by rw [f2.fuse]; decide) (j := j) hj
  have hw0 := (hrw slot hsl).1
  have hwd := write_dim r.1.flush.1 slot (mkB (putS s).1)
  obtain ⟨y1, y2, y3, y4⟩ := flush_good (d := (r.1.flush.1.write slot (mkB (putS s).1)).1) ⟨q1, q2⟩
  rw [if_neg (fun hh => hh w1), if_neg (fun hh => hh f1), if_neg (fun hh => hh hp0), if_neg (fun hh => hh hw0)]
  refine ⟨y1, y2, y3, fun j hj hno => ?_⟩
  rw [y4 j, (hrw j (by rw [fd.2.1, dm2]; omega)).2, if_neg (by omega), f4 j, w3 j (by omega) (fun p hp => hno p.1 (hL p hp).1)]
theorem pagesOf_cuts {size : Int} {N : Nat} (h : geoOK size N = true) : pagesOf size N = ((fmtN size N : Nat) : Int) := by
  obtain ⟨h8, n, hn, h1, h2⟩ := geo8 h
  obtain ⟨hp1, hp2, _⟩ := perOf_spec h8
  unfold pagesOf fmtN cutsN
  rw [if_pos h, room_per h8]
  rw [show (2 : Int) * (N : Int) + ((2 * perOf size : Nat) : Int) - 1 = ((2 * N + 2 * perOf size - 1 : Nat) : Int) by omega, ← Int.natCast_ediv]
  congr 1
  rw [← Nat.div_div_eq_div_mul]
  congr 1
  omega
theorem chk_fmt {size : Int} {N : Nat} (h : geoOK size N = true) : chk (fmtS size N) = if 14 + 4 * ((fmtN size N : Nat) : Int) > roomOf size then 3 else 0 := by
  have hn := fmtN_le h
  have hl : (fmtS size N).pages.length = fmtN size N := fmtP_length _
  have hget : ∀ j, j < fmtN size N → (fmtS size N).pages.getD j 0 = j + 2 := fun j hj => by
    show (fmtP (fmtN size N)).getD j 0 = _
    unfold fmtP
    simp [List.getD_eq_getElem?_getD, hj]
  rw [chk_long]
  · rw [hl]; rfl
  · exact ⟨h, (show (1 : Nat) ≠ 0 by decide), .inl rfl, by rw [hl]; exact (pagesOf_cuts h).symm⟩
  · intro j hj
    rw [hl] at hj
    refine ⟨?_, ?_, ?_⟩
    · rw [hget j hj]
      unfold pageOK
      rw [decide_eq_true]
      exact ⟨by omega, by show ((j + 2 : Nat) : Int) < (N : Int); omega⟩
    · rw [hget j hj]; show j + 2 ≠ 0; omega
    · rw [hget j hj]
      intro hm
      have hm : j + 2 ∈ (fmtP (fmtN size N)).take j := hm
      unfold fmtP at hm
      rw [← List.map_take, List.take_range] at hm
      obtain ⟨i, hi, e⟩ := List.mem_map.1 hm
      have := List.mem_range.1 hi
      omega
theorem format_good {d : Dev} (h : DevG d) (hchk : chk (fmtS d.size d.blocks.toNat) = 0) : (formatD d).2 = 0 ∧ Good (formatS d) [] ∧ (formatS d).dev.pen = [] := by
  obtain ⟨z, N, e1, e2, e3, e4, e5, e6, e7, e8⟩ := h.ok.facts
  have hN : d.blocks.toNat = N := by omega
  have hg : geoOK d.size (N : Int) = true := by rw [← e2]; exact h.ok.geo
  obtain ⟨n1, n2, n3⟩ := fmtN_le hg
  rw [hN] at hchk
  have hz : (((zeroB d.size.toNat).size : Nat) : Int) = d.size := by rw [zeroB_size]; omega
  have h1 : 0 ≤ (1 : Int) ∧ (1 : Int) < d.blocks := by omega
  obtain ⟨q1, q2, q3⟩ := write_ok h.ok h1 hz h.fuse
  have hw0 := (read_write h.ok h1 hz (by rw [h.fuse]; decide) h1).1
  have hwd := write_dim d 1 (zeroB d.size.toNat)
  have hpages : ∀ p ∈ fmtP (fmtN d.size N), 2 ≤ p ∧ p < N := fun p hp => by
    unfold fmtP at hp
    obtain ⟨i, hi, rfl⟩ := List.mem_map.1 hp
    have := List.mem_range.1 hi
    omega
  obtain ⟨c1, c2, c3, c4⟩ := commit_good (d := (d.write 1 (zeroB d.size.toNat)).1) ⟨q1, q2⟩ (c := fmtC N (fmtN d.size N)) (s := fmtS d.size N) (slot := 0) hchk hwd.1.symm (fun p hp => by have := hpages p hp; rw [hwd.2.1]; omega) (.inl rfl)
  have eD : formatD d = commitD (d.write 1 (zeroB d.size.toNat)).1 (fmtC N (fmtN d.size N)) (fmtS d.size N) 0 := by
    unfold formatD
    rw [hN, if_neg (fun hh => hh hchk), if_neg (fun hh => hh hw0)]
  have dm := commitD_dim (d.write 1 (zeroB d.size.toNat)).1 (fmtC N (fmtN d.size N)) (fmtS d.size N) 0
  have eS : formatS d = ⟨(formatD d).1, fmtS d.size N, 0, fmtC N (fmtN d.size N), fmtC N (fmtN d.size N), none⟩ := by unfold formatS; rw [hN]
  rw [eS, eD]
  refine ⟨c1, ⟨⟨(dm.1.trans hwd.1).symm, ?_, fmtS_fits hg, ?_, ?_, fun l hl => by cases hl⟩, c2.ok, c2.fuse, by show 1 < _; decide, ?_⟩, c3⟩
  · show (N : Int) = _
    rw [dm.2, hwd.2.1, e2]
  · show (fmtC N (fmtN d.size N)).length = ((N : Int)).toNat
    rw [fmtC_length n1]; omega
  · show (fmtC N (fmtN d.size N)).length = ((N : Int)).toNat
    rw [fmtC_length n1]; omega
  · show WellC ((N : Int)).toNat (fmtP (fmtN d.size N)) _ (fmtC N (fmtN d.size N)) []
    have hget := fun k => fmtC_get (N := N) (np := fmtN d.size N) (k := k) n1
    have hnone : ∀ k, usedC (fmtP (fmtN d.size N)) (fmtC N (fmtN d.size N)) k = false := fun k => by
      cases hq : usedC (fmtP (fmtN d.size N)) (fmtC N (fmtN d.size N)) k with
      | false => rfl
      | true =>
        obtain ⟨a1, a2, a3⟩ := usedC_iff.1 hq
        rw [hget k] at a3
        split at a3
        · exfalso
          apply a2
          unfold fmtP
          exact List.mem_map.2 ⟨k - 2, List.mem_range.2 (by omega), by omega⟩
        · omega
    refine ⟨by rw [fmtC_length n1]; omega, by omega, ⟨by rw [hget, if_pos (by omega)], by rw [hget, if_pos (by omega)]⟩, fun p hp => ?_, by simp, (fun n hn => by rw [hnone] at hn; cases hn), ⟨fun _ => 0, (fun n hn => by rw [hnone] at hn; cases hn)⟩, fun n h2 hp => ?_⟩
    · have := hpages p hp
      refine ⟨this.1, by omega, ?_⟩
      unfold fmtP at hp
      obtain ⟨i, hi, rfl⟩ := List.mem_map.1 hp
      have := List.mem_range.1 hi
      rw [hget, if_pos (by omega)]
    · have hz0 : sumC ((N : Int)).toNat (fmtP (fmtN d.size N)) (Spa.page ⟨(commitD (d.write 1 (zeroB d.size.toNat)).1 (fmtC N (fmtN d.size N)) (fmtS d.size N) 0).1, fmtS d.size N, 0, fmtC N (fmtN d.size N), fmtC N (fmtN d.size N), none⟩) (fmtC N (fmtN d.size N)) n = 0 := by
        unfold sumC
        rw [sum_congr (g := fun _ => 0) (fun m _ => by unfold refC; rw [hnone]; rfl)]
        exact sum_zeros _
      have e0 : (fmtC N (fmtN d.size N)).getD n 0 = 0 := by
        rw [hget, if_neg]
        intro hlt
        apply hp
        show n ∈ fmtP (fmtN d.size N)
        unfold fmtP
        exact List.mem_map.2 ⟨n - 2, List.mem_range.2 (by omega), by omega⟩
      rw [e0, List.count_nil, Nat.zero_add]
      exact hz0.symm
end Go.Proofs.YtjdmggaeagnolaaGreat.V
/- Spaces of one's own: contracts, short. -/
set_option linter.unusedVariables false
set_option linter.unusedSimpArgs false
namespace Go.Proofs.YtjdmggaeagnolaaGreat.V
open Go Go.Proofs Go.RowKit Crc
/-- A space of one's own, made since w0. -/
def At (w0 w : World) (b db : Nat) (S : Spa) : Prop := ∃ F, SpAt w b db S F ∧ (∀ k, F k → w0.heap.size ≤ k) ∧ Ext w0 w
variable {w0 w w' : World} {b db : Nat} {S : Spa} {R : List Nat}
theorem At.x (h : At w0 w b db S) : Ext w0 w := by
  obtain ⟨F, _, _, hx⟩ := h
  exact hx
theorem At.ext (h : At w0 w b db S) (he : Ext w w') : At w0 w' b db S := by
  obtain ⟨F, h1, h2, hx⟩ := h
  exact ⟨F, h1.ext he, h2, hx.trans he⟩
theorem At.open_ (h : At w0 w b db S) : ∃ F Fd x hb hr nb nr m, SpM w b db S F Fd x hb hr nb nr m ∧ (∀ k, F k → w0.heap.size ≤ k) ∧ Ext w0 w := by
  obtain ⟨F, ⟨Fd, x, hb, hr, nb, nr, m, h⟩, h2, hx⟩ := h
  exact ⟨F, Fd, x, hb, hr, nb, nr, m, h, h2, hx⟩
theorem At.step {F : Nat → Prop} {S' : Spa} (h2 : ∀ k, F k → w0.heap.size ≤ k) (hx : Ext w0 w) (hst : StepS w b db F S' w') : At w0 w' b db S' := by
  obtain ⟨F', g1, g2, g3⟩ := hst
  refine ⟨F', g1, fun k hk => ?_, Only.ext hx g3 h2⟩
  rcases g2 k hk with e | e
  · exact h2 k e
  · exact Nat.le_trans hx.size e
theorem At.only {G : Nat → Prop} (h : At w0 w b db S) (hO : Only G w w') (hG : ∀ F : Nat → Prop, SpAt w b db S F → ∀ k, F k → ¬ G k) (hG0 : ∀ k, G k → w0.heap.size ≤ k) : At w0 w' b db S := by
  obtain ⟨F, h1, h2, hx⟩ := h
  exact ⟨F, h1.only hO (hG F h1), h2, Only.ext hx hO hG0⟩
theorem At.fit (h : At w0 w b db S) : ∀ n, S.now.getD n 0 < 65536 := by
  obtain ⟨F, Fd, x, hb, hr, nb, nr, m, h, _⟩ := h.open_
  exact fun n => (cnt_lt h n).1
theorem At.N (h : At w0 w b db S) : S.N ≤ 4096 ∧ S.now.length = S.N := by
  obtain ⟨F, Fd, x, hb, hr, nb, nr, m, h, _⟩ := h.open_
  exact ⟨h.dims.n.2, h.ok.now⟩
/-- A space on a new device. -/
theorem devG0 {size blocks : Int} (h : geoOK size blocks = true) : DevG (dev0 size blocks) := ⟨dev0_ok h, rfl⟩
theorem at_format {w1 : World} {d : Dev} {db : Nat} (h : DevNew w0 d db w1) (hd : DevG d) (hpen : d.pen.length ≤ 800000) :
    Calls Tryz.prog 10 #[.pointer (some ⟨db, 0, none⟩)] w1 (Ret fun v w' => ((formatD d).2 ≠ 0 ∧ v = .tuple #[.pointer none, .int .i64 (formatD d).2] ∧ Ext w0 w') ∨ ((formatD d).2 = 0 ∧ ∃ b, v = .tuple #[.pointer (some ⟨b, 0, none⟩), .int .i64 0] ∧ At w0 w' b db (formatS d))) := by
  obtain ⟨F, h1, h2, hx⟩ := h
  refine (format_calls h1 hpen).mono (Ret.mono ?_)
  rintro v w' (⟨q1, rfl, F', q2, q3, q4⟩ | ⟨q1, b, F', rfl, q2, q3, q4, q5⟩)
  · exact .inl ⟨q1, rfl, Only.ext hx q4 h2⟩
  · refine .inr ⟨q1, b, rfl, F', q2, fun k hk => ?_, Only.ext hx q5 h2⟩
    rcases q4 k hk with e | e
    · exact h2 k e
    · exact Nat.le_trans hx.size e
end Go.Proofs.YtjdmggaeagnolaaGreat.V
/- Spaces: several blocks taken, and what Commit comes to: plain. -/
set_option linter.unusedVariables false
set_option linter.unusedSimpArgs false
namespace Go.Proofs.YtjdmggaeagnolaaGreat.V
open Go Go.Proofs Go.RowKit Crc
theorem freeL_nd (S : Spa) : S.freeL.Nodup := List.Nodup.sublist List.filter_sublist List.nodup_range
theorem take1 {S : Spa} (hl : S.now.length = S.N) (h01 : S.now.getD 0 0 ≠ 0 ∧ S.now.getD 1 0 ≠ 0) (hf : 0 < S.freeN) :
    S.takeI < S.N ∧ 2 ≤ S.takeI ∧ S.isFree S.takeI = true ∧ S.takeN = S.takeI ∧ S.takeE = 0 ∧ S.takeL = S.now.set S.takeI 1 ∧ S.freeL = S.takeI :: ({ S with now := S.now.set S.takeI 1 } : Spa).freeL := by
  obtain ⟨n, hn⟩ : ∃ n, n ∈ S.freeL := by
    unfold Spa.freeN at hf
    cases hq : S.freeL with
    | nil => rw [hq] at hf; simp at hf
    | cons a r => exact ⟨a, List.mem_cons_self⟩
  obtain ⟨h1, h2, h3⟩ := freeL_mem.1 hn
  have hlt : S.takeI < (List.range S.now.length).length := List.findIdx_lt_length_of_exists ⟨n, List.mem_range.2 (by omega), h3⟩
  rw [List.length_range] at hlt
  have hfr : S.isFree S.takeI = true := by
    have := List.findIdx_getElem (p := S.isFree) (xs := List.range S.now.length) (w := by rw [List.length_range]; exact hlt)
    rw [List.getElem_range] at this
    exact this
  obtain ⟨f1, f2, f3⟩ := isFree_iff.1 hfr
  have hno : ∀ j, j < S.takeI → S.isFree j = false := fun j hj => by
    have := List.not_of_lt_findIdx (p := S.isFree) (xs := List.range S.now.length) (i := j) hj
    rw [List.getElem_range] at this
    simpa using this
  have ht2 : 2 ≤ S.takeI := by
    rcases Nat.lt_or_ge S.takeI 2 with hh | hh
    · have : S.takeI = 0 ∨ S.takeI = 1 := by omega
      rcases this with e | e <;> rw [e] at f1 <;> omega
    · exact hh
  refine ⟨by omega, ht2, hfr, ?_, ?_, ?_, ?_⟩
  · unfold Spa.takeN; rw [if_pos hlt]
  · unfold Spa.takeE; rw [if_pos hlt]
  · unfold Spa.takeL; rw [if_pos hlt]
  · refine freeL_take (by omega) ht2 hfr hno rfl (fun j hj => ?_)
    show ((S.now.set S.takeI 1).getD j 0 == 0 && S.held.getD j 0 == 0 && cnt S.mark j == 0) = _
    rw [getD_setN]
    by_cases e : j = S.takeI
    · rw [if_pos ⟨e.symm, by omega⟩, if_pos e]; rfl
    · rw [if_neg (fun h => e h.1.symm), if_neg e]; rfl
namespace Spa
def tk (S : Spa) (k : Nat) : Spa := { S with now := onL S.now (S.freeL.take k) }
end Spa
theorem tk_ok {S : Spa} (hl : S.now.length = S.N) (h01 : S.now.getD 0 0 ≠ 0 ∧ S.now.getD 1 0 ≠ 0) : ∀ k, k ≤ S.freeN → (S.tk k).freeL = S.freeL.drop k ∧ (S.tk k).now.length = S.N ∧ ((S.tk k).now.getD 0 0 ≠ 0 ∧ (S.tk k).now.getD 1 0 ≠ 0)
  | 0, _ => ⟨rfl, hl, h01⟩
  | k + 1, hk => by
    obtain ⟨g1, g2, g3⟩ := tk_ok hl h01 k (by omega)
    have hf : 0 < (S.tk k).freeN := by unfold Spa.freeN at hk ⊢; rw [g1, List.length_drop]; omega
    obtain ⟨t1, t2, t3, t4, t5, t6, t7⟩ := take1 (S := S.tk k) g2 g3 hf
    rw [g1] at t7
    have hkl : k < S.freeL.length := hk
    rw [List.drop_eq_getElem_cons hkl] at t7
    injection t7 with e1 e2
    have et : S.freeL.take (k + 1) = S.freeL.take k ++ [(S.tk k).takeI] := by rw [List.take_add_one, List.getElem?_eq_getElem hkl, e1]; rfl
    have eS : S.tk (k + 1) = { S.tk k with now := (S.tk k).now.set (S.tk k).takeI 1 } := by
      unfold Spa.tk at et ⊢
      rw [et, onL_append]
    refine ⟨by rw [eS, e2], ?_, ?_⟩
    · rw [eS]; show (List.set _ _ _).length = _; rw [List.length_set]; exact g2
    · rw [eS]
      show (List.getD (List.set _ _ _) _ _ ≠ 0 ∧ List.getD (List.set _ _ _) _ _ ≠ 0)
      rw [getD_setN, getD_setN, if_neg (by omega), if_neg (by omega)]
      exact g3
theorem tk_step {S : Spa} (hl : S.now.length = S.N) (h01 : S.now.getD 0 0 ≠ 0 ∧ S.now.getD 1 0 ≠ 0) {k : Nat} (hk : k < S.freeN) :
    (S.tk k).takeN = S.freeL.getD k 0 ∧ (S.tk k).takeE = 0 ∧ ({ S.tk k with now := (S.tk k).takeL } : Spa) = S.tk (k + 1) ∧ S.freeL.take (k + 1) = S.freeL.take k ++ [S.freeL.getD k 0] := by
  obtain ⟨g1, g2, g3⟩ := tk_ok hl h01 k (by omega)
  have hf : 0 < (S.tk k).freeN := by unfold Spa.freeN at hk ⊢; rw [g1, List.length_drop]; omega
  obtain ⟨t1, t2, t3, t4, t5, t6, t7⟩ := take1 (S := S.tk k) g2 g3 hf
  rw [g1] at t7
  have hkl : k < S.freeL.length := hk
  rw [List.drop_eq_getElem_cons hkl] at t7
  injection t7 with e1 e2
  have eg : S.freeL.getD k 0 = (S.tk k).takeI := by rw [List.getD_eq_getElem?_getD, List.getElem?_eq_getElem hkl, ← e1]; rfl
  have et : S.freeL.take (k + 1) = S.freeL.take k ++ [S.freeL.getD k 0] := by rw [List.take_add_one, List.getElem?_eq_getElem hkl, eg, ← e1]; rfl
  refine ⟨by rw [t4, eg], t5, ?_, et⟩
  unfold Spa.tk at *
  rw [et, onL_append, eg, ← t6]
/-! ### Commit -/
namespace Spa
def ns (S : Spa) : List Nat := S.freeL.take S.sup.pages.length
def comC (S : Spa) : List Nat := subs (onL S.now S.ns) S.sup.pages
def next (S : Spa) (root : Nat) : Sup := ⟨S.sup.gen + 1, S.sup.size, S.sup.blocks, root, S.ns⟩
def comE (S : Spa) (root : Nat) : Int := if root ≠ 0 ∧ S.asked root = false then 2 else if root ≠ 0 ∧ S.now.getD root 0 = 0 then 8 else if S.freeN < S.sup.pages.length then 9 else 0
def comD (S : Spa) (root : Nat) : Dev × Int := commitD S.dev S.comC (S.next root) (other S.slot)
def commit (S : Spa) (root : Nat) : Spa × Int :=
  if S.comE root ≠ 0 then (S, S.comE root)
  else if (S.comD root).2 ≠ 0 then ({ S with now := S.comC, dev := (S.comD root).1 }, (S.comD root).2)
  else (⟨(S.comD root).1, S.next root, other S.slot, S.comC, S.comC, none⟩, 0)
end Spa
/-- What the pages of counts are to be. -/
structure PgsOk (S : Spa) : Prop where
  at_ : ∀ p ∈ S.sup.pages, 2 ≤ p ∧ p < S.N ∧ S.now.getD p 0 = 1
  nodup : S.sup.pages.Nodup
  len : S.sup.pages.length = cutsN S.N (perOf S.sup.size)
theorem ns_free {S : Spa} {k : Nat} (hk : k ∈ S.ns) : k < S.N ∧ 2 ≤ k ∧ S.isFree k = true := freeL_mem.1 (List.mem_of_mem_take hk)
theorem ns_nodup (S : Spa) : S.ns.Nodup := List.Nodup.sublist (List.take_sublist _ _) (freeL_nd S)
theorem on_get {S : Spa} (hl : S.now.length = S.N) (k : Nat) : (onL S.now S.ns).getD k 0 = if k ∈ S.ns then 1 else S.now.getD k 0 := onL_get _ _ _ (fun n hn => by rw [hl]; exact (ns_free hn).1)
theorem on_page {S : Spa} (hl : S.now.length = S.N) (hp : PgsOk S) {p : Nat} (hm : p ∈ S.sup.pages) : p ∉ S.ns ∧ (onL S.now S.ns).getD p 0 = 1 := by
  have h1 := (hp.at_ p hm).2.2
  have hn : p ∉ S.ns := fun e => by have := (isFree_iff.1 (ns_free e).2.2).1; omega
  exact ⟨hn, by rw [on_get hl, if_neg hn, h1]⟩
theorem sub_page {S : Spa} (hl : S.now.length = S.N) (hp : PgsOk S) {i : Nat} (hi : i < S.sup.pages.length) : atE (subs (onL S.now S.ns) (S.sup.pages.take i)) (S.sup.pages.getD i 0) = 0 := by
  have hg : S.sup.pages.getD i 0 = S.sup.pages[i] := by rw [List.getD_eq_getElem?_getD, List.getElem?_eq_getElem hi]; rfl
  have hm : S.sup.pages.getD i 0 ∈ S.sup.pages := by rw [hg]; exact List.getElem_mem _
  have hol : (onL S.now S.ns).length = S.N := by rw [onL_length, hl]
  have h1 := hp.at_ _ hm
  have hnt : S.sup.pages.getD i 0 ∉ S.sup.pages.take i := by
    intro e
    have hnd := hp.nodup
    rw [← List.take_append_drop i S.sup.pages, List.drop_eq_getElem_cons hi, List.nodup_append] at hnd
    exact hnd.2.2 _ e _ List.mem_cons_self hg
  have hgt := subs_get (S.sup.pages.take i) (onL S.now S.ns) (S.sup.pages.getD i 0) (List.Nodup.sublist (List.take_sublist _ _) hp.nodup) (fun n hn => by
    have hn' := List.mem_of_mem_take hn
    have := hp.at_ n hn'
    have := (on_page hl hp hn').2
    exact ⟨by omega, by omega, by omega⟩)
  rw [if_neg hnt, (on_page hl hp hm).2] at hgt
  unfold atE
  rw [subs_length, hol, if_neg (by omega), if_neg (by omega)]
theorem comC_get {S : Spa} (hl : S.now.length = S.N) (hp : PgsOk S) (k : Nat) : S.comC.getD k 0 = if k ∈ S.sup.pages then 0 else if k ∈ S.ns then 1 else S.now.getD k 0 := by
  have hol : (onL S.now S.ns).length = S.N := by rw [onL_length, hl]
  unfold Spa.comC
  rw [subs_get _ _ _ hp.nodup (fun n hn => by
    have := hp.at_ n hn
    have := (on_page hl hp hn).2
    exact ⟨by omega, by omega, by omega⟩)]
  split
  · rename_i hm
    rw [(on_page hl hp hm).2]
  · exact on_get hl k
theorem comC_length (S : Spa) : S.comC.length = S.now.length := by unfold Spa.comC; rw [subs_length, onL_length]
end Go.Proofs.YtjdmggaeagnolaaGreat.V
/- Contracts of the package space: Commit. -/
set_option linter.unusedVariables false
set_option linter.unusedSimpArgs false
namespace Go.Proofs.YtjdmggaeagnolaaGreat.V
open Go Go.Proofs Go.RowKit Crc
theorem boxAE {ls : List Lf} {w : World} {b : Nat} {a : Addr} {cs rest : List Value} {t : TypeId} {K : LT ls → WP} (o : Nat) (x : LT ls) (h : Blk w b cs t) (ha : a = ⟨b, o, none⟩) (hx : cs.drop o = LT.vals ls x ++ rest) (hK : K x w) : ldAW ls a K w := by
  subst ha
  have := boxAt (o := o) x h hx hK
  rw [add_mk, Nat.zero_add] at this
  exact this
theorem boxC {w : World} {b o : Nat} {a : Addr} {cs : List Value} {t : TypeId} {v : Value} (h : Blk w b cs t) (ha : a = ⟨b, o, none⟩) (hv : cs[o]? = some v) : w.cell? a = some v := by
  subst ha
  rw [h.cell, hv]
def setsL : List Value → Nat → List Value → List Value
  | cs, _, [] => cs
  | cs, k, v :: r => setsL (cs.set k v) (k + 1) r
theorem storable_at {w : World} {b : Nat} {cs : List Value} {t : TypeId} (h : Blk w b cs t) {o : Nat} : ∀ (vs : List Value) (i : Nat), o + i + vs.length ≤ cs.length → (∀ v ∈ vs, v.oneCell' = true) → Storable w ⟨b, o, none⟩ i vs
  | [], _, _, _ => trivial
  | v :: r, i, hl, ho => by
    simp only [List.length_cons] at hl
    refine ⟨ho v List.mem_cons_self, ?_, ?_, storable_at h r (i + 1) (by omega) (fun u hu => ho u (List.mem_cons_of_mem _ hu))⟩
    · rw [add_mk, h.cell]
      exact ⟨_, List.getElem?_eq_getElem (by omega)⟩
    · rw [add_mk]
      exact h.frozen _
theorem setCells_at {b o : Nat} {t : TypeId} : ∀ (vs : List Value) (i : Nat) (w : World) (cs : List Value), Blk w b cs t → Blk (setCells w ⟨b, o, none⟩ i vs) b (setsL cs (o + i) vs) t ∧ Only (fun k => k = b) w (setCells w ⟨b, o, none⟩ i vs)
  | [], i, w, cs, h => ⟨h, Only.refl _ _⟩
  | v :: r, i, w, cs, h => by
    simp only [setCells, add_mk]
    have h2 := h.set (o + i) v
    have o2 : Only (fun k => k = b) w (w.setCell ⟨b, o + i, none⟩ v) := Only.of_grown (set_grown w b (o + i) v) (fun j hj => .inl (by injection hj with hj; exact hj.symm))
    obtain ⟨g1, g2⟩ := setCells_at (o := o) r (i + 1) _ _ h2
    exact ⟨g1, Only.trans o2 g2 (fun j hj => .inl hj)⟩
/-- A part of a box is filled anew. -/
theorem refillE {w : World} {b n : Nat} (o : Nat) {a : Addr} {cs vs : List Value} {t : TypeId} {us : Array Value} {K : WP} (h : Blk w b cs t) (ha : a = ⟨b, o, none⟩) (hl : o + vs.length ≤ cs.length) (hv : ∀ v ∈ vs, v.oneCell' = true) (hu : us.size = n)
    (hK : ∀ w', Blk w' b (setsL cs o vs) t → Only (fun k => k = b) w w' → K w') : (guardW (us.size = n) <| stAW a vs K) w := by
  subst ha
  obtain ⟨g1, g2⟩ := setCells_at (o := o) vs 0 w cs h
  exact ⟨hu, storable_at h vs 0 (by omega) hv, hK _ g1 g2⟩
theorem stE {w : World} {b o : Nat} {a : Addr} {cs : List Value} {t : TypeId} {v : Value} {K : WP} (h : Blk w b cs t) (ha : a = ⟨b, o, none⟩) (ho : o < cs.length) (hK : ∀ w', Blk w' b (cs.set o v) t → Only (fun k => k = b) w w' → K w') : stW a v K w := by
  subst ha
  exact stW_blk h ho (hK _ (h.set o v) (Only.of_grown (set_grown w b o v) (fun j hj => .inl (by injection hj with hj; exact hj.symm))))
variable {w w' : World} {b db : Nat} {S : Spa} {F Fd : Nat → Prop} {x : SLC} {hb hr nb nr : Nat} {m : MkL}
theorem commitS_calls (h : SpM w b db S F Fd x hb hr nb nr m) (h01 : S.now.getD 0 0 ≠ 0 ∧ S.now.getD 1 0 ≠ 0) (hp : PgsOk S) (hgen : S.sup.gen + 1 < 18446744073709551616) (hpen : S.dev.pen.length ≤ 900000) {root : Nat} (hroot : root < 4294967296) :
    Calls Tryz.prog 24 #[.pointer (some ⟨b, 0, none⟩), .int .u32 (root : Int)] w (Ret fun v w' => v = .int .i64 (S.commit root).2 ∧ StepS w b db F (S.commit root).1 w') := by
  have hdim := h.dims
  have hN := hdim.n
  have hFlt := h.lt
  have hfn := freeN_le S
  have hlen := h.ok.now
  have hpgl := h.pgs.len
  have hbF : F b := (h.own b).2 (.inr (by simp [spOwn]))
  have hblt := hFlt b hbF
  have stay : ∀ {w' : World}, Ext w w' → StepS w b db F S w' := fun e => ⟨F, ⟨Fd, x, hb, hr, nb, nr, m, h.ext e⟩, fun k hk => .inl hk, Only.of_ext e⟩
  have fin : ∀ e : Int, S.comE root = e → e ≠ 0 → S.commit root = (S, e) := fun e he0 hne => by unfold Spa.commit; rw [if_pos (by rw [he0]; exact hne), he0]
  have hrn : (root : Int) = 0 ↔ root = 0 := by omega
  have hFw : ∀ j, w.heap.size ≤ j → ¬ F j := fun j hj hf => by have := hFlt j hf; omega
  apply calls24
  unfold S24
  refine joinW_s (fun _ w' => S.comE root = 0 ∧ Ext w w') ?_ (fun J hJ => ?_)
  rotate_left
  · refine splitW_f (by rfl) ?_
    refine joinW_s (fun y w' => y = (decide (root ≠ 0 ∧ S.asked root = false), ()) ∧ w' = w) ?_ (fun J2 hJ2 => ?_)
    rotate_left
    · refine splitW_i (fun hq => ?_) (fun hq => ?_)
      · have hq := bne_iff_ne.1 hq
        refine callW_of (asked_calls h hroot) ?_
        rintro _ w1 ⟨rfl, hw1⟩
        refine ⟨_, rfl, hJ2 _ _ ⟨?_, hw1⟩⟩
        congr 1
        have : root ≠ 0 := fun e => hq (by omega)
        cases hh : S.asked root <;> simp [this, hh]
      · have hq := bne_eq_false_iff_eq.1 hq
        refine hJ2 _ _ ⟨?_, rfl⟩
        congr 1
        have : root = 0 := by omega
        simp [this]
    rintro y w1 ⟨rfl, hw1⟩
    rw [hw1]
    refine splitW_i (fun hq => ?_) (fun hq => ?_)
    · have hq := of_decide_eq_true hq
      rw [fin 2 (by unfold Spa.comE; rw [if_pos hq]) (by decide)]
      exact ⟨rfl, stay (Ext.refl w)⟩
    have hq1 := of_decide_eq_false hq
    have full : ∀ {w2 : World}, Ext w w2 → S.comE root = (if S.freeN < S.sup.pages.length then 9 else 0) →
        (drewW <| ptrW (some (⟨b, 0, none⟩ : Addr)) fun p9 => ldW .slc ((p9.add 1).add 4) fun (u10 : Option Addr × Nat × Nat) =>
          callW Tryz.prog 17 [.pointer (some ⟨b, 0, none⟩)] (.one (.one (.int .i64))) fun (u11 : Int) =>
          heldW [[(((p9.add 1).add 4), (.slice u10.1 u10.2.1 u10.2.2))]] <|
          splitW (decide (u11 < ((u10.2.1 : Nat) : Int))) (fun w' => (Value.int .i64 (9 : Int)) = .int .i64 (S.commit root).2 ∧ StepS w b db F (S.commit root).1 w') (J ())) w2 := by
      intro w2 he2 hE
      refine draw_i fun w3 he3 _ _ => ?_
      have h3 := h.ext (he2.trans he3)
      obtain ⟨t, hbx⟩ := h3.box
      refine ptr_i (boxE (l := .slc) 5 x hbx (by rfl) (by rfl) ?_)
      refine callW_of (freeN_calls h3) ?_
      rintro _ w4 ⟨rfl, he4⟩
      refine ⟨_, rfl, ?_⟩
      have he34 := (he2.trans he3).trans he4
      refine ⟨fun l hl q hq => ?_, ?_⟩
      · simp only [List.mem_singleton] at hl
        subst hl
        simp only [List.mem_singleton] at hq
        subst hq
        exact boxC (hbx.ext he4) (o := 5) (by rfl) (by rfl)
      refine splitW_i (fun hq => ?_) (fun hq => ?_)
      · have hq := of_decide_eq_true hq
        rw [fin 9 (by rw [hE, if_pos (by omega)]) (by decide)]
        exact ⟨rfl, stay he34⟩
      · have hq := of_decide_eq_false hq
        exact hJ _ _ ⟨by rw [hE, if_neg (by omega)], he34⟩
    refine splitW_i (fun hq => ?_) (fun hq => ?_)
    · have hq := bne_iff_ne.1 hq
      have hr0 : root ≠ 0 := fun e => hq (by omega)
      obtain ⟨t, hbx⟩ := h.box
      refine ptr_i (boxE (l := .ptr) 8 (some ⟨nb, 0, none⟩) hbx (by rfl) (by rfl) ?_)
      refine callW_of (nowget_calls h root hroot) ?_
      rintro _ w2 ⟨rfl, hw2⟩
      refine ⟨_, rfl, ?_⟩
      rw [hw2]
      refine splitW_i (fun hz => ?_) (fun hz => ?_)
      · have hz := beq_iff_eq.1 hz
        rw [fin 8 (by unfold Spa.comE; rw [if_neg hq1, if_pos ⟨hr0, by omega⟩]) (by decide)]
        exact ⟨rfl, stay (Ext.refl w)⟩
      · have hz := beq_eq_false_iff_ne.1 hz
        exact full (Ext.refl w) (by unfold Spa.comE; rw [if_neg hq1, if_neg (fun hh => hz (by omega))])
    · have hq := bne_eq_false_iff_eq.1 hq
      exact full (Ext.refl w) (by unfold Spa.comE; rw [if_neg hq1, if_neg (fun hh => hh.1 (by omega))])
  rintro ⟨⟩ w1 ⟨hcE, he1⟩
  have hfree : S.sup.pages.length ≤ S.freeN := by
    unfold Spa.comE at hcE
    split at hcE
    · cases hcE
    split at hcE
    · cases hcE
    split at hcE
    · cases hcE
    · omega
  refine draw_i fun w2 he2 _ _ => ?_
  have h2 := h.ext (he1.trans he2)
  obtain ⟨t, hbx2⟩ := h2.box
  refine ptr_i (boxE (l := .int .u64) 1 (S.sup.gen : Int) hbx2 (by rfl) (by rfl) ?_)
  refine ptr_i (boxAE (ls := [.int .i64, .int .i64]) 2 (S.sup.size, S.sup.blocks, ()) hbx2 (by rfl) (by rfl) ?_)
  dsimp only
  refine new_i fun r19 w3 hb3 he3 hr3 hz3 => ?_
  refine ⟨fun l hl q hq => ?_, ?_⟩
  · simp only [List.mem_cons, List.not_mem_nil, or_false] at hl
    rcases hl with rfl | rfl
    · simp only [List.mem_cons, List.not_mem_nil, or_false] at hq
      rcases hq with rfl | rfl
      · exact boxC (hbx2.ext he3) (o := 2) (by rfl) (by rfl)
      · exact boxC (hbx2.ext he3) (o := 3) (by rfl) (by rfl)
    · simp only [List.mem_cons, List.not_mem_nil, or_false] at hq
      subst hq
      exact boxC (hbx2.ext he3) (o := 1) (by rfl) (by rfl)
  have hwr : IntKind.wrap .u64 ((S.sup.gen : Int) + 1) = ((S.sup.gen + 1 : Nat) : Int) := by rw [show ((S.sup.gen : Int) + 1) = ((S.sup.gen + 1 : Nat) : Int) from rfl, wrap_u64_nat hgen]
  rw [hwr]
  refine refill (vs := sV ⟨S.sup.gen + 1, S.sup.size, S.sup.blocks, root, []⟩ (none, 0, 0)) hb3 rfl (sV_one _ _) rfl ?_
  intro w4 hb4 hx4 hk4 hz4
  have he02 := he1.trans he2
  have hs02 := he02.size
  have hs3 := he3.size
  have he4 : Ext w w4 := hx4 w (he02.trans he3) (by omega)
  have h4 := h.ext he4
  obtain ⟨t, hbx4⟩ := h4.box
  refine ptr_i (boxE (l := .slc) 5 x hbx4 (by rfl) (by rfl) ?_)
  show loopW _ _ _ w4
  refine loopW_i (fun y' w' => ∃ (i : Nat) (A : Option Addr) (c : Nat), i ≤ x.2.1 ∧ y' = ((i : Int), ()) ∧ SpM w' b db (S.tk i) F Fd x hb hr nb nr m ∧ Blk w' r19 (sV ⟨S.sup.gen + 1, S.sup.size, S.sup.blocks, root, []⟩ (A, i, c)) 78 ∧ Owni (numE .u32) 35 w' w4.heap.size A i c (S.freeL.take i) ∧ Only F w w' ∧ w4.heap.size ≤ w'.heap.size) (fun y' => (x.2.1 - y'.1).toNat)
    ⟨0, none, 0, by omega, rfl, h4, hb4, Owni.nil _ _ _, Only.of_ext he4, Nat.le_refl _⟩ ?_
  rintro _ w5 ⟨i, A, c, hi, rfl, hS5, hb5, ho5, o5, hz5⟩
  dsimp only
  by_cases hlt : i < x.2.1
  · refine splitW_t (decide_eq_true (by omega)) ?_
    obtain ⟨q1, q2, q3⟩ := tk_ok hlen h01 i (by omega)
    obtain ⟨t1, t2, t3, t4⟩ := tk_step hlen h01 (k := i) (by omega)
    refine callW_of (takeS_calls hS5 q3) ?_
    rintro _ w6 ⟨rfl, hS6, o6⟩
    rw [t3] at hS6
    refine ⟨(((S.tk i).takeN : Int), (S.tk i).takeE, ()), rfl, ?_⟩
    dsimp only
    rw [t2, t1]
    refine splitW_f (by rfl) ?_
    have hb6 := hb5.only o6 (hFw r19 (by omega))
    have hAr : ∀ j, orow A = some j → w4.heap.size ≤ j := fun j hj => ho5.row j hj
    have ho6 := ho5.only o6 (fun j hj => hFw j (by have := hAr j hj; have := he4.size; omega))
    have hz6 := o6.2.2.2.1
    refine boxF (l := .slc) 4 (A, i, c) hb6 (by rfl) ?_
    dsimp only
    have hle := ho6.le
    refine append_newi (E := numE .u32) (ys := [S.freeL.getD i 0]) (by rfl) rfl elem_u32 ho6 (by omega) (by omega) (by omega) ?_
    intro A' c' w7 ho7 hg7
    have oc7 : Only (fun j => orow A = some j) w6 w7 := Only.of_grown hg7.grown (fun j hj => .inl hj)
    have hb7 := hb6.only oc7 (fun e => by have := hAr _ e; omega)
    have hS7 := hS6.only oc7 (fun j hj e => by have := hAr j e; have := hFlt j hj; have := he4.size; omega)
    have hz7 := hg7.grown.size
    rw [add_mk]
    refine stE hb7 (o := 4) (by rfl) (by show 4 < 5; omega) ?_
    intro w8 hb8 oc8
    have o8 : Only F w w8 := Only.trans (Only.trans (Only.trans o5 o6 (fun j hj => .inl hj)) oc7 (fun j hj => .inr (by have := hAr j hj; have := he4.size; omega))) oc8 (fun j hj => .inr (by have : j = r19 := hj; omega))
    refine ⟨⟨i + 1, A', c', by omega, by rw [wrap_i64 (by omega) (by omega)]; rfl, hS7.only oc8 (fun j hj e => by have := hFlt j hj; have : j = r19 := e; omega), hb8, ?_, o8, by have := oc8.2.2.2.1; omega⟩, by rw [wrap_i64 (by omega) (by omega)]; omega⟩
    rw [t4]
    exact ho7.only oc8 (fun j hj e => by have := ho7.row j hj; have : j = r19 := e; omega)
  obtain rfl : i = x.2.1 := by omega
  refine splitW_f (decide_eq_false (by omega)) ?_
  have enp : x.2.1 = S.sup.pages.length := hpgl.symm
  have hs4 := he4.size
  have hns : S.freeL.take x.2.1 = S.ns := by rw [enp]; rfl
  have hnl : S.ns.length = x.2.1 := by rw [← hns, List.length_take]; unfold Spa.freeN at hfree; omega
  have etk : S.tk x.2.1 = { S with now := onL S.now S.ns } := by unfold Spa.tk; rw [hns]
  rw [etk] at hS5
  rw [hns] at ho5
  obtain ⟨t, hbx5⟩ := hS5.box
  refine ptr_i (boxE (l := .slc) 5 x hbx5 (by rfl) (by rfl) ?_)
  show loopW _ _ _ w5
  have hAr : ∀ j, orow A = some j → w4.heap.size ≤ j := fun j hj => ho5.row j hj
  have hAlt : ∀ j, orow A = some j → j < w5.heap.size := fun j hj => ho5.row_lt j hj
  refine loopW_i (fun y' w' => ∃ (i : Nat), i ≤ x.2.1 ∧ y' = ((i : Int), ()) ∧ SpM w' b db { S with now := subs (onL S.now S.ns) (S.sup.pages.take i) } F Fd x hb hr nb nr m ∧ Blk w' r19 (sV ⟨S.sup.gen + 1, S.sup.size, S.sup.blocks, root, []⟩ (A, x.2.1, c)) 78 ∧ Owni (numE .u32) 35 w' w4.heap.size A x.2.1 c S.ns ∧ Only F w w' ∧ w5.heap.size ≤ w'.heap.size) (fun y' => (x.2.1 - y'.1).toNat)
    ⟨0, by omega, rfl, hS5, hb5, ho5, o5, Nat.le_refl _⟩ ?_
  rintro _ w6 ⟨i, hi, rfl, hS6, hb6, ho6, o6, hz6⟩
  dsimp only
  by_cases hlt : i < x.2.1
  · refine splitW_t (decide_eq_true (by omega)) ?_
    refine idx_num hS6.pgs.sl (by omega) (by omega) ?_
    rw [Int.toNat_natCast]
    obtain ⟨t, hbx6⟩ := hS6.box
    refine ptr_i (boxE (l := .ptr) 8 (some ⟨nb, 0, none⟩) hbx6 (by rfl) (by rfl) ?_)
    have h32 : S.sup.pages.getD i 0 < 4294967296 := h.ok.fits.at_ i
    refine callW_of (sub_now hS6 h32) ?_
    rintro _ w7 ⟨rfl, hS7, hg7⟩
    have hat := sub_page hlen hp (i := i) (by omega)
    refine ⟨((subN (subs (onL S.now S.ns) (S.sup.pages.take i)) (S.sup.pages.getD i 0) : Int), atE (subs (onL S.now S.ns) (S.sup.pages.take i)) (S.sup.pages.getD i 0), ()), rfl, ?_⟩
    dsimp only
    rw [hat]
    refine splitW_f (by rfl) ?_
    have hnrF : F nr := h.nrF
    have o7 : Only F w6 w7 := h.nrOnly hg7
    have et : S.sup.pages.take (i + 1) = S.sup.pages.take i ++ [S.sup.pages.getD i 0] := by
      have hil : i < S.sup.pages.length := by omega
      rw [List.take_add_one, List.getD_eq_getElem?_getD, List.getElem?_eq_getElem hil]; rfl
    refine ⟨⟨i + 1, by omega, by rw [wrap_i64 (by omega) (by omega)]; rfl, ?_, hb6.only o7 (hFw r19 (by omega)), ho6.only o7 (fun j hj => hFw j (by have := hAr j hj; omega)), Only.trans o6 o7 (fun j hj => .inl hj), by have := o7.2.2.2.1; omega⟩, by rw [wrap_i64 (by omega) (by omega)]; omega⟩
    rw [et, subs_append]
    exact hS7
  obtain rfl : i = x.2.1 := by omega
  refine splitW_f (decide_eq_false (by omega)) ?_
  have ecm : subs (onL S.now S.ns) (S.sup.pages.take x.2.1) = S.comC := by rw [List.take_of_length_le (by omega)]; rfl
  rw [ecm] at hS6
  obtain ⟨t, hbx6⟩ := hS6.box
  refine ptr_i (boxE (l := .int .i64) 6 S.slot hbx6 (by rfl) (by rfl) ?_)
  refine callW_of (other_calls w6 S.slot) ?_
  rintro _ w7 ⟨rfl, hw7⟩
  refine ⟨_, rfl, ?_⟩
  rw [hw7]
  refine draw_i fun w8 he8 _ _ => ?_
  have hS8 := hS6.ext he8
  have hb8 := hb6.ext he8
  have ho8 := ho6.ext he8
  obtain ⟨t, hbx8⟩ := hS8.box
  refine ptr_i (boxE (l := .ptr) 0 (some ⟨db, 0, none⟩) hbx8 (by rfl) (by rfl) ?_)
  refine ptr_i (boxE (l := .ptr) 8 (some ⟨nb, 0, none⟩) hbx8 (by rfl) (by rfl) ?_)
  have hb8' : Blk w8 r19 (sV (S.next root) (A, x.2.1, c)) 78 := hb8
  refine boxA (ls := sLs) (sT (S.next root) (A, x.2.1, c)) hb8' rfl ?_
  obtain ⟨q, hnc⟩ := hS8.nowC
  have hff : (S.next root).Fits := ⟨hgen, h.ok.fits.size, h.ok.fits.blocks, hroot, fun p hm => by have := (ns_free hm).1; omega⟩
  have hp8 : Pg w8 (A, x.2.1, c) (S.next root).pages := ⟨ho8.sl, ho8.le.1⟩
  have hFd : ∀ j, Fd j → F j := fun j hj => (h.own j).2 (.inl hj)
  have esz : S.sup.size = S.dev.size := h.ok.size
  have o8 : Only F w w8 := Only.trans o6 (Only.of_ext (F := F) he8) (fun j hj => .inl hj)
  refine callW_of (commit_calls hS8.dev (by rw [← esz]; exact hnc) hff hp8 (fun a ha hf => hFw _ (by have := hAr a.block (by rw [show A = some a from ha]; rfl); omega) (hFd _ hf)) ?_ hpen (other S.slot)) ?_
  · show S.ns.length = cutsN S.comC.length (perOf S.dev.size)
    rw [hnl, enp, hp.len, comC_length, hlen, esz]
  rintro _ w9 ⟨rfl, hst⟩
  refine ⟨_, rfl, ?_⟩
  have hdm := commitD_dim S.dev S.comC (S.next root) (other S.slot)
  obtain ⟨F9, Fd9, hS9, hF9, o9⟩ := hS8.setDev hst hdm
  have hF9' : ∀ k, F9 k → F k ∨ w.heap.size ≤ k := fun k hk => by
    rcases hF9 k hk with e | e
    · exact .inl e
    · exact .inr (Nat.le_trans o8.2.2.2.1 e)
  have o09 : Only F w w9 := Only.trans o8 o9 (fun j hj => .inl hj)
  have eC : S.commit root = if (S.comD root).2 ≠ 0 then ({ S with now := S.comC, dev := (S.comD root).1 }, (S.comD root).2) else (⟨(S.comD root).1, S.next root, other S.slot, S.comC, S.comC, none⟩, 0) := by
    unfold Spa.commit
    rw [if_neg (fun hh => hh hcE)]
  refine splitW_i (fun hq => ?_) (fun hq => ?_)
  · have hq := bne_iff_ne.1 hq
    rw [eC, if_pos (show (S.comD root).2 ≠ 0 from hq)]
    exact ⟨rfl, F9, ⟨Fd9, x, hb, hr, nb, nr, m, hS9⟩, hF9', o09⟩
  have hq := bne_eq_false_iff_eq.1 hq
  rw [eC, if_neg (fun hh => hh (show (S.comD root).2 = 0 from hq))]
  have hz8 := he8.size
  have hz9 := o9.2.2.2.1
  have hA9 : ∀ j, orow A = some j → ¬ F j := fun j hj => hFw j (by have := hAr j hj; omega)
  have hb9 := hb8'.only o9 (hFw r19 (by omega))
  have ho9 := ho8.only o9 hA9
  refine draw_i fun w10 he10 _ _ => ?_
  have hS10 := hS9.ext he10
  have hb10 := hb9.ext he10
  have ho10 := ho9.ext he10
  refine boxA (ls := sLs) (sT (S.next root) (A, x.2.1, c)) hb10 rfl ?_
  obtain ⟨t, hbx10⟩ := hS10.box
  refine ptr_i (boxE (l := .ptr) 8 (some ⟨nb, 0, none⟩) hbx10 (by rfl) (by rfl) ?_)
  obtain ⟨q10, hnc10⟩ := hS10.nowC
  refine callW_of (cntclone_calls hnc10) ?_
  rintro _ w11 ⟨⟨b2, r2, q2, rfl, hc11, hb2, hr2⟩, he11⟩
  refine ⟨some ⟨b2, 0, none⟩, rfl, ?_⟩
  have hb11 := hb10.ext he11
  refine ⟨fun l hl q hq => ?_, ?_⟩
  · simp only [List.mem_singleton] at hl
    subst hl
    simp only [List.mem_cons, List.not_mem_nil, or_false] at hq
    rcases hq with rfl | rfl | rfl | rfl | rfl
    · exact boxC hb11 (o := 0) (by rfl) (by rfl)
    · exact boxC hb11 (o := 1) (by rfl) (by rfl)
    · exact boxC hb11 (o := 2) (by rfl) (by rfl)
    · exact boxC hb11 (o := 3) (by rfl) (by rfl)
    · exact boxC hb11 (o := 4) (by rfl) (by rfl)
  have hS11 := hS10.ext he11
  have ho11 := ho10.ext he11
  obtain ⟨t, hbx11⟩ := hS11.box
  refine ptr_i ?_
  refine refillE (vs := sV (S.next root) (A, x.2.1, c)) 1 hbx11 (by rfl) (by show 1 + 5 ≤ 10; omega) (sV_one _ _) rfl ?_
  intro w12 hb12 oc12
  refine ptr_i (stE hb12 (o := 6) (by rfl) (by show 6 < 10; omega) fun w13 hb13 oc13 => ?_)
  refine ptr_i (stE hb13 (o := 7) (by rfl) (by show 7 < 10; omega) fun w14 hb14 oc14 => ?_)
  refine ptr_i (stE hb14 (o := 9) (by rfl) (by show 9 < 10; omega) fun w15 hb15 oc15 => ?_)
  have ob : Only (fun k => k = b) w11 w15 := Only.trans (Only.trans (Only.trans oc12 oc13 (fun j hj => .inl hj)) oc14 (fun j hj => .inl hj)) oc15 (fun j hj => .inl hj)
  have o15 : Only F w w15 := Only.trans (Only.trans o09 (Only.of_ext (F := F) (he10.trans he11)) (fun j hj => .inl hj)) ob (fun j hj => .inl (by rw [show j = b from hj]; exact hbF))
  have hnd := hS11.nodup
  have hap := hS11.apart
  have hlt11 := hS11.lt
  have hown := hS11.own
  have hz10 := he10.size
  have hz11 := he11.size
  have hz15 := ob.2.2.2.1
  have hin : ∀ k, k ∈ [b, nb, nr] → k ∈ spOwn b hb hr nb nr x m := fun k hk => by
    simp only [List.mem_cons, List.not_mem_nil, or_false] at hk
    rcases hk with rfl | rfl | rfl <;> simp [spOwn]
  have hb9lt : b < w9.heap.size := hS9.lt b ((hS9.own b).2 (.inr (hin b (by simp))))
  have hnb9 : nb < w9.heap.size := hS9.lt nb ((hS9.own nb).2 (.inr (hin nb (by simp))))
  have hnr9 : nr < w9.heap.size := hS9.lt nr ((hS9.own nr).2 (.inr (hin nr (by simp))))
  have hFd9lt : ∀ k, Fd9 k → k < w9.heap.size := fun k hk => hS9.lt k ((hS9.own k).2 (.inl hk))
  have hnbF : F nb := (h.own nb).2 (.inr (by simp [spOwn]))
  have hnrF : F nr := h.nrF
  simp only [spOwn, List.nodup_cons, List.mem_cons, not_or] at hnd
  obtain ⟨⟨n1, n2, n3, n4, n5⟩, ⟨n6, n7, n8, n9⟩, ⟨n10, n11, n12⟩, ⟨n13, n14⟩, n15, n16⟩ := hnd
  have hne2 := hc11.ne
  have hA2 : ∀ k, k ∈ rowL (A, x.2.1, c) → w4.heap.size ≤ k ∧ k < w5.heap.size := by
    intro k hk
    unfold rowL at hk
    cases A with
    | none => simp at hk
    | some a =>
      simp only [Option.map_some, Option.toList_some, List.mem_singleton] at hk
      subst hk
      exact ⟨hAr a.block rfl, hAlt a.block rfl⟩
  have hA3 : ∀ k, k ∈ rowL (A, x.2.1, c) → ¬ Fd9 k := fun k hk hf => by
    have h1 := hA2 k hk
    rcases hF9 k ((hS9.own k).2 (.inl hf)) with e | e
    · exact hFw k (by omega) e
    · omega
  have hrn : (rowL (A, x.2.1, c)).Nodup := by unfold rowL; cases A <;> simp
  obtain ⟨q11, hnc11⟩ := hS11.nowC
  refine ⟨rfl, fun k => Fd9 k ∨ k ∈ spOwn b b2 r2 nb nr (A, x.2.1, c) none, ⟨Fd9, (A, x.2.1, c), b2, r2, nb, nr, none, ⟨⟨t, hb15⟩, hS11.dev.apart ob (fun j hj e => hap b (hin b (by simp)) (by rw [← show j = b from e]; exact hj)), ⟨(ho11.only ob (fun j hj e => by have := hAr j hj; have : j = b := e; omega)).sl, ho8.le.1⟩, ⟨q2, hc11.only ob (by show ¬ b2 = b; omega) (by show ¬ r2 = b; omega)⟩, ⟨q11, hnc11.only ob (fun e => n3 (show nb = b from e).symm) (fun e => n4 (show nr = b from e).symm)⟩, trivial, fun _ => Iff.rfl, ?_, ?_, ?_, ⟨?_, ?_, hff, ?_, ?_, fun l hl => by cases hl⟩⟩⟩, ?_, o15⟩
  · simp only [spOwn, mkBl, List.append_nil, List.nodup_cons, List.mem_cons, not_or]
    refine ⟨⟨by omega, by omega, n3, n4, fun hk => by have := hA2 _ hk; omega⟩, ⟨hne2, by omega, by omega, fun hk => by have := hA2 _ hk; omega⟩, ⟨by omega, by omega, fun hk => by have := hA2 _ hk; omega⟩, ⟨n13, fun hk => by have := hA2 _ hk; have := hFlt nb hnbF; omega⟩, fun hk => by have := hA2 _ hk; have := hFlt nr hnrF; omega, hrn⟩
  · intro k hk hf
    simp only [spOwn, mkBl, List.append_nil, List.mem_cons] at hk
    have := hFd9lt k hf
    rcases hk with rfl | rfl | rfl | rfl | rfl | hk
    · exact hap _ (hin _ (by simp)) hf
    · omega
    · omega
    · exact hap _ (hin _ (by simp)) hf
    · exact hap _ (hin _ (by simp)) hf
    · exact hA3 k hk hf
  · intro k hk
    have := hA2 k hk
    omega
  · show S.sup.size = (S.comD root).1.size
    rw [show (S.comD root).1.size = S.dev.size from hdm.1]; exact esz
  · show S.sup.blocks = (S.comD root).1.blocks
    rw [show (S.comD root).1.blocks = S.dev.blocks from hdm.2]; exact h.ok.blocks
  · show S.comC.length = _
    rw [comC_length, hlen]; rfl
  · show S.comC.length = _
    rw [comC_length, hlen]; rfl
  · rintro k (hk | hk)
    · exact hF9' k ((hS9.own k).2 (.inl hk))
    · simp only [spOwn, mkBl, List.append_nil, List.mem_cons] at hk
      rcases hk with rfl | rfl | rfl | rfl | rfl | hk
      · exact .inl hbF
      · exact .inr (by omega)
      · exact .inr (by omega)
      · exact .inl hnbF
      · exact .inl hnrF
      · have := hA2 k hk
        exact .inr (by omega)
end Go.Proofs.YtjdmggaeagnolaaGreat.V
/- Contracts of the package space: Open, Root. -/
set_option linter.unusedVariables false
set_option linter.unusedSimpArgs false
namespace Go.Proofs.YtjdmggaeagnolaaGreat.V
open Go Go.Proofs Go.RowKit Crc
def opnC (d : Dev) : Int × Sup × Int := chooseS (B (d.read 0).1) (B (d.read 1).1)
def pgK (d : Dev) (p : Nat) : Fra × Int := kindR (B (d.read (p : Int)).1) 2
def opnL (d : Dev) : List ByteArray := (opnC d).2.1.pages.map fun p => (pgK d p).1.2.2
def opnOK (d : Dev) : Prop := (opnC d).2.2 = 0 ∧ (opnC d).2.1.size = d.size ∧ (opnC d).2.1.blocks = d.blocks ∧ (∀ p ∈ (opnC d).2.1.pages, (pgK d p).2 = 0 ∧ (pgK d p).1.2.1 = (opnC d).2.1.gen) ∧ loadE d.size d.blocks (opnL d) = 0
def openS (d : Dev) : Spa := ⟨d, (opnC d).2.1, (opnC d).1, loadL (opnL d), loadL (opnL d), none⟩
theorem choose_ok {a b : List UInt8} (h : (chooseS a b).2.2 = 0) : chk (chooseS a b).2.1 = 0 := by
  have key : ∀ c, (getS c).2 = 0 → chk (getS c).1 = 0 := by
    intro c hc
    have h2 := (getS_ok hc).1
    unfold putS at h2
    split at h2
    · rename_i hk
      exact hk
    · rename_i hk
      injection h2 with _ h3
  unfold chooseS at h ⊢
  split at h
  · cases h
  · rename_i h1
    rw [if_neg h1]
    split at h
    · rename_i h2
      rw [if_pos h2]
      refine key b ?_
      rcases h2 with h2 | h2
      · exact Decidable.not_not.1 (fun hb => h1 ⟨h2, hb⟩)
      · exact h2.1
    · rename_i h2
      rw [if_neg h2]
      exact key a (Decidable.not_not.1 (fun ha => h2 (.inl ha)))
theorem choose_fits (a b : List UInt8) : (chooseS a b).2.1.Fits := by
  unfold chooseS
  split
  · exact sup0_fits
  · split
    · exact getS_fits b
    · exact getS_fits a
theorem read_size {d : Dev} (h : d.Ok) (k : Int) : (d.read k).1.size ≤ 4096 := by
  by_cases hk : 0 ≤ k ∧ k < d.blocks
  · have h1 := (h.read hk.1 hk.2).2
    obtain ⟨g1, g2, g3, g4, g5⟩ := geo_room h.geo
    omega
  · unfold Dev.read
    rw [if_pos hk]
    show (ByteArray.empty).size ≤ 4096
    decide
theorem loadE_facts {size blocks : Int} {ps : List ByteArray} (h : loadE size blocks ps = 0) : geoOK size blocks = true ∧ fitsP blocks.toNat (perOf size) ps := by
  unfold loadE at h
  split at h
  · cases h
  · rename_i h1
    split at h
    · cases h
    · rename_i h2
      exact ⟨by cases hh : geoOK size blocks with
        | true => rfl
        | false => exact absurd hh h1, Decidable.not_not.1 h2⟩
theorem geoEq_iff {a b : Int × Int} : geoEq a b = true ↔ a.1 = b.1 ∧ a.2 = b.2 := by simp [geoEq]
theorem open_calls {w : World} {db : Nat} {d : Dev} {Fd : Nat → Prop} (h : DevAt w db d Fd) :
    Calls Tryz.prog 12 #[.pointer (some ⟨db, 0, none⟩)] w (Ret fun v w' => Ext w w' ∧ ((¬ opnOK d ∧ v = .tuple #[.pointer none, .int .i64 10]) ∨ (opnOK d ∧ ∃ b F, v = .tuple #[.pointer (some ⟨b, 0, none⟩), .int .i64 0] ∧ SpAt w' b db (openS d) F ∧ w.heap.size ≤ b ∧ ∀ k, F k → Fd k ∨ w.heap.size ≤ k))) := by
  have hgeo := h.ok.geo
  have hFlt := h.lt
  have hs0 := read_size h.ok 0
  have hs1 := read_size h.ok 1
  apply calls12
  unfold S12
  refine splitW_f (by rfl) ?_
  refine callW_of (read_calls h 0) ?_
  rintro _ w1 ⟨rfl, he1⟩
  refine ⟨((d.read 0).1, (d.read 0).2, ()), rfl, ?_⟩
  refine callW_of (read_calls (h.ext he1) 1) ?_
  rintro _ w2 ⟨rfl, he2⟩
  refine ⟨((d.read 1).1, (d.read 1).2, ()), rfl, ?_⟩
  dsimp only
  refine callW_of (choose_calls w2 (d.read 0).1 (d.read 1).1 (by omega) (by omega)) ?_
  rintro _ w3 ⟨x, rfl, hp3, he3, hx3⟩
  have eC : chooseS (B (d.read 0).1) (B (d.read 1).1) = opnC d := rfl
  rw [eC] at hp3 ⊢
  have hff : (opnC d).2.1.Fits := choose_fits _ _
  refine ⟨((opnC d).1, sT (opnC d).2.1 x, (opnC d).2.2, ()), rfl, ?_⟩
  have he03 := (he1.trans he2).trans he3
  refine boxedS (s := (opnC d).2.1) (x := x) (by rfl) (fun r4 w4 hb4 he4 hr4 => ?_)
  have he04 := he03.trans he4
  refine draw_i fun w5 he5 _ _ => ?_
  have hb5 := hb4.ext he5
  have he05 := he04.trans he5
  have hp5 := (hp3.ext he4).ext he5
  have bad : ∀ {w' : World}, ¬ opnOK d → Ext w w' → (Ext w w' ∧ ((¬ opnOK d ∧ Value.tuple #[.pointer none, .int .i64 (10 : Int)] = .tuple #[.pointer none, .int .i64 10]) ∨ (opnOK d ∧ ∃ b F, Value.tuple #[.pointer none, .int .i64 (10 : Int)] = .tuple #[.pointer (some ⟨b, 0, none⟩), .int .i64 0] ∧ SpAt w' b db (openS d) F ∧ w.heap.size ≤ b ∧ ∀ k, F k → Fd k ∨ w.heap.size ≤ k))) := fun hn he => ⟨he, .inl ⟨hn, rfl⟩⟩
  refine splitW_i (fun hq => ?_) (fun hq => ?_)
  · have hq := bne_iff_ne.1 hq
    exact bad (fun hh => hq hh.1) he05
  have hq0 := bne_eq_false_iff_eq.1 hq
  have hq0 : (opnC d).2.2 = 0 := hq0
  have hchk := choose_ok (a := B (d.read 0).1) (b := B (d.read 1).1) hq0
  obtain ⟨⟨c1, c2, c3, c4⟩, c5, c6⟩ := chk_ok hchk
  have c4 : ((opnC d).2.1.pages.length : Int) = pagesOf (opnC d).2.1.size (opnC d).2.1.blocks := c4
  have hple := pagesOf_le (size := (opnC d).2.1.size) (blocks := (opnC d).2.1.blocks)
  refine boxAE (ls := [.int .i64, .int .i64]) 1 ((opnC d).2.1.size, (opnC d).2.1.blocks, ()) hb5 (by rfl) (by rfl) ?_
  dsimp only
  refine callW_of (geo_calls (h.ext he05)) ?_
  rintro _ w6 ⟨rfl, he6⟩
  refine ⟨(d.size, d.blocks, ()), rfl, ?_⟩
  have hb6 := hb5.ext he6
  have he06 := he05.trans he6
  refine ⟨fun l hl q hq => ?_, ?_⟩
  · simp only [List.mem_singleton] at hl
    subst hl
    simp only [List.mem_cons, List.not_mem_nil, or_false] at hq
    rcases hq with rfl | rfl
    · exact boxC hb6 (o := 1) (by rfl) (by rfl)
    · exact boxC hb6 (o := 2) (by rfl) (by rfl)
  dsimp only
  refine ⟨_, fun w' => neq_geoS w' ((opnC d).2.1.size, (opnC d).2.1.blocks) (d.size, d.blocks) _ _, ?_⟩
  refine splitW_i (fun hq => ?_) (fun hq => ?_)
  · refine bad (fun hh => ?_) he06
    have : geoEq ((opnC d).2.1.size, (opnC d).2.1.blocks) (d.size, d.blocks) = true := geoEq_iff.2 ⟨hh.2.1, hh.2.2.1⟩
    rw [this] at hq
    cases hq
  have hq1 : (opnC d).2.1.size = d.size ∧ (opnC d).2.1.blocks = d.blocks := by
    have : geoEq ((opnC d).2.1.size, (opnC d).2.1.blocks) (d.size, d.blocks) = true := by simpa using hq
    exact geoEq_iff.1 this
  refine boxF (l := .slc) 4 x hb6 (by rfl) ?_
  have hp6 := hp5.ext he6
  have hpl := hp6.len
  have hge : ∀ j, w.heap.size ≤ j → ¬ Fd j := fun j hj hf => by have := hFlt j hf; omega
  have hs06 := he06.size
  refine loopW_i (fun y' w' => ∃ (i : Nat) (A : Option Addr) (c : Nat), i ≤ x.2.1 ∧ y' = ((A, i, c), (i : Int), ()) ∧ Ext w6 w' ∧ Owni strE 9 w' w6.heap.size A i c ((opnL d).take i) ∧ (∀ p ∈ (opnC d).2.1.pages.take i, (pgK d p).2 = 0 ∧ (pgK d p).1.2.1 = (opnC d).2.1.gen)) (fun y' => (x.2.1 - y'.2.1).toNat)
    ⟨0, none, 0, by omega, rfl, Ext.refl _, Owni.nil _ _ _, by simp⟩ ?_
  rintro _ w7 ⟨i, A, c, hi, rfl, he7, ho7, hall⟩
  dsimp only
  have he07 := he06.trans he7
  by_cases hlt : i < x.2.1
  · refine splitW_t (decide_eq_true (by omega)) ?_
    refine idx_num (hp6.sl.ext he7) (by omega) (by omega) ?_
    rw [Int.toNat_natCast]
    have hil : i < (opnC d).2.1.pages.length := by omega
    have hpi : (opnC d).2.1.pages[i]? = some ((opnC d).2.1.pages.getD i 0) := by rw [List.getD_eq_getElem?_getD, List.getElem?_eq_getElem hil]; rfl
    have hpm : (opnC d).2.1.pages.getD i 0 ∈ (opnC d).2.1.pages := by
      obtain ⟨_, e⟩ := List.getElem?_eq_some_iff.1 hpi
      rw [← e]; exact List.getElem_mem _
    have h32 : (opnC d).2.1.pages.getD i 0 < 4294967296 := hff.at_ i
    rw [wrap_i64 (by omega) (by omega)]
    have hrs := read_size h.ok ((opnC d).2.1.pages.getD i 0 : Nat)
    refine callW_of (read_calls (h.ext he07) ((opnC d).2.1.pages.getD i 0 : Nat)) ?_
    rintro _ w8 ⟨rfl, he8⟩
    refine ⟨((d.read ((opnC d).2.1.pages.getD i 0 : Nat)).1, (d.read ((opnC d).2.1.pages.getD i 0 : Nat)).2, ()), rfl, ?_⟩
    dsimp only
    refine callW_of (fkind_calls w8 (d.read ((opnC d).2.1.pages.getD i 0 : Nat)).1 (by omega) 2) ?_
    rintro _ w9 ⟨rfl, he9⟩
    have eK : kindR (B (d.read ((opnC d).2.1.pages.getD i 0 : Nat)).1) 2 = pgK d ((opnC d).2.1.pages.getD i 0) := rfl
    rw [eK]
    refine ⟨(fT (pgK d ((opnC d).2.1.pages.getD i 0)).1, (pgK d ((opnC d).2.1.pages.getD i 0)).2, ()), rfl, ?_⟩
    refine boxed (f := (pgK d ((opnC d).2.1.pages.getD i 0)).1) (fun r15 w10 hb10 he10 hr10 => ?_)
    have he710 := (he8.trans he9).trans he10
    have he010 := he07.trans he710
    have hb4' := hb6.ext (he7.trans he710)
    refine splitW_i (fun hz => ?_) (fun hz => ?_)
    · have hz := bne_iff_ne.1 hz
      exact bad (fun hh => hz (hh.2.2.2.1 _ hpm).1) he010
    have hz0 := bne_eq_false_iff_eq.1 hz
    refine boxF (l := .int .u64) 1 (((pgK d ((opnC d).2.1.pages.getD i 0)).1.2.1 : Nat) : Int) hb10 (by rfl) ?_
    refine box0 (((opnC d).2.1.gen : Nat) : Int) hb4' (by rfl) ?_
    refine splitW_i (fun hz => ?_) (fun hz => ?_)
    · have hz := bne_iff_ne.1 hz
      exact bad (fun hh => hz (by rw [(hh.2.2.2.1 _ hpm).2])) he010
    have hz1 := bne_eq_false_iff_eq.1 hz
    refine boxF (l := .str) 2 (pgK d ((opnC d).2.1.pages.getD i 0)).1.2.2 hb10 (by rfl) ?_
    have ho10 := ho7.ext he710
    have hs710 := he710.size
    have hs67 := he7.size
    refine append_newi (E := strE) (ys := [(pgK d ((opnC d).2.1.pages.getD i 0)).1.2.2]) (by rfl) rfl elem_strK' ho10 (by omega) (by omega) (by omega) ?_
    intro A' c' w11 ho11 hg11
    have hAr : ∀ j, orow A = some j → w6.heap.size ≤ j := fun j hj => ho10.row j hj
    refine ⟨⟨i + 1, A', c', by omega, by rw [wrap_i64 (by omega) (by omega)]; rfl, (he7.trans he710).grown hg11.grown (fun j hj => hAr j hj), ?_, ?_⟩, by rw [wrap_i64 (by omega) (by omega)]; omega⟩
    · have eL : (opnL d)[i]? = some (pgK d ((opnC d).2.1.pages.getD i 0)).1.2.2 := by unfold opnL; rw [List.getElem?_map, hpi]; rfl
      rw [List.take_add_one, eL]
      exact ho11
    · intro p hpm'
      rw [List.take_add_one, hpi] at hpm'
      simp only [Option.toList_some, List.mem_append, List.mem_singleton] at hpm'
      rcases hpm' with e | rfl
      · exact hall p e
      · exact ⟨hz0, by omega⟩
  obtain rfl : i = x.2.1 := by omega
  refine splitW_f (decide_eq_false (by omega)) ?_
  rw [List.take_of_length_le (by omega)] at hall
  have hLl : (opnL d).length = x.2.1 := by unfold opnL; rw [List.length_map]; exact hpl
  rw [List.take_of_length_le (by omega)] at ho7
  refine callW_of (geo_calls (h.ext he07)) ?_
  rintro _ w8 ⟨rfl, he8⟩
  refine ⟨(d.size, d.blocks, ()), rfl, ?_⟩
  dsimp only
  refine callW_of (load_calls (size := d.size) (blocks := d.blocks) (c := c) (ho7.ext he8).sl) ?_
  rintro _ w9 ⟨xo, rfl, hld, he9⟩
  refine ⟨(xo, loadE d.size d.blocks (opnL d), ()), rfl, ?_⟩
  dsimp only
  have he79 := he8.trans he9
  have he09 := he07.trans he79
  refine splitW_i (fun hz => ?_) (fun hz => ?_)
  · have hz := bne_iff_ne.1 hz
    exact bad (fun hh => hz hh.2.2.2.2) he09
  have hz := bne_eq_false_iff_eq.1 hz
  rw [if_pos hz] at hld
  obtain ⟨cb, cr, rfl, hc9, hcb, hcr⟩ := hld
  have hOK : opnOK d := ⟨hq0, hq1.1, hq1.2, hall, hz⟩
  refine draw_i fun w10 he10 _ _ => ?_
  have he69 := he7.trans he79
  have hb10 := hb6.ext (he69.trans he10)
  refine boxA (ls := sLs) (sT (opnC d).2.1 x) hb10 rfl ?_
  have hc10 := hc9.ext he10
  refine callW_of (cntclone_calls hc10) ?_
  rintro _ w11 ⟨⟨b2, r2, q2, rfl, hc11, hb2, hr2⟩, he11⟩
  refine ⟨some ⟨b2, 0, none⟩, rfl, ?_⟩
  have hb11 := hb10.ext he11
  refine ⟨fun l hl q hq => ?_, ?_⟩
  · simp only [List.mem_singleton] at hl
    subst hl
    simp only [List.mem_cons, List.not_mem_nil, or_false] at hq
    rcases hq with rfl | rfl | rfl | rfl | rfl
    · exact boxC hb11 (o := 0) (by rfl) (by rfl)
    · exact boxC hb11 (o := 1) (by rfl) (by rfl)
    · exact boxC hb11 (o := 2) (by rfl) (by rfl)
    · exact boxC hb11 (o := 3) (by rfl) (by rfl)
    · exact boxC hb11 (o := 4) (by rfl) (by rfl)
  refine new_i fun r25 w12 hb12 he12 hr12 hz12 => ?_
  have he011 := (he09.trans he10).trans he11
  have he012 := he011.trans he12
  have hs3 := he03.size
  have hs04 := he04.size
  have hs05 := he05.size
  have hs79 := he79.size
  have hs10 := he10.size
  have hs11 := he11.size
  have hs8 := he8.size
  have hs7 := he7.size
  have hs23 := he3.size
  have hs02 := (he1.trans he2).size
  have hne := hc9.ne
  have hne2 := hc11.ne
  have hcbl := hc9.head.lt
  have hcrl := hc9.row.lt
  have hcb2 := hc11.head.lt
  have hcr2 := hc11.row.lt
  have hA2 : ∀ k, k ∈ rowL x → w.heap.size ≤ k ∧ k < w8.heap.size := by
    intro k hk
    unfold rowL at hk
    cases hxa : x.1 with
    | none => rw [hxa] at hk; simp at hk
    | some a =>
      rw [hxa] at hk
      simp only [Option.map_some, Option.toList_some, List.mem_singleton] at hk
      subst hk
      have h1 := hx3 a hxa
      by_cases hx0 : 0 < x.2.1
      · obtain ⟨a', e1, e2, e3⟩ := hp3.sl.2.2 hx0
        rw [hxa] at e1
        injection e1 with e1
        subst e1
        have hlen3 := hp3.sl.len
        have hm : ((opnC d).2.1.pages)[0]? = some ((opnC d).2.1.pages.getD 0 0) := by rw [List.getD_eq_getElem?_getD, List.getElem?_eq_getElem (by omega)]; rfl
        obtain ⟨a2, g1, g2, g3⟩ := hp3.sl.at_ hm
        rw [hxa] at g1
        injection g1 with g1
        subst g1
        have hcell := g3.1
        have hlt := World.block_lt_of_cell? w3 _ hcell
        have hab : ((a.add (0 * 1)).add 0).block = a.block := by unfold Addr.add; split <;> rfl
        have : a.block < w3.heap.size := by
          have h5 := hlt
          revert h5
          unfold Addr.add
          split <;> intro h5 <;> exact h5
        have hs36 := (he4.trans (he5.trans he6)).size
        omega
      · exfalso
        have h0 : (opnC d).2.1.pages.length = 0 := by omega
        have := fmtN_le (size := d.size) (N := d.blocks.toNat) (by rw [Int.toNat_of_nonneg (by have := geo_room hgeo; omega)]; exact hgeo)
        have hf := (loadE_facts hz).2
        have hf := fitsP_len hf
        rw [hLl] at hf
        unfold fmtN at this
        omega
  have hrn : (rowL x).Nodup := by unfold rowL; cases x.1 <;> simp
  have hdimN := geo_dims hgeo
  refine ⟨he012, .inr ⟨hOK, r25, fun k => Fd k ∨ k ∈ spOwn r25 cb cr b2 r2 x none, rfl, ⟨Fd, x, cb, cr, b2, r2, none, ⟨⟨_, hb12⟩, h.ext he012, hp6.ext (((he69.trans he10).trans he11).trans he12), ⟨[], ?_⟩, ⟨q2, ?_⟩, trivial, fun _ => Iff.rfl, ?_, ?_, ?_, ⟨hq1.1, hq1.2, hff, ?_, ?_, fun l hl => by cases hl⟩⟩⟩, by omega, ?_⟩⟩
  · show Cnt w12 cb cr (opnC d).2.1.size [] (loadL (opnL d))
    rw [hq1.1]
    exact (hc10.ext he11).ext he12
  · show Cnt w12 b2 r2 (opnC d).2.1.size q2 (loadL (opnL d))
    rw [hq1.1]
    exact hc11.ext he12
  · simp only [spOwn, mkBl, List.append_nil, List.nodup_cons, List.mem_cons, not_or]
    refine ⟨⟨by omega, by omega, by omega, by omega, fun hk => by have := hA2 _ hk; omega⟩, ⟨hne, by omega, by omega, fun hk => by have := hA2 _ hk; omega⟩, ⟨by omega, by omega, fun hk => by have := hA2 _ hk; omega⟩, ⟨hne2, fun hk => by have := hA2 _ hk; omega⟩, fun hk => by have := hA2 _ hk; omega, hrn⟩
  · intro k hk
    refine hge k ?_
    simp only [spOwn, mkBl, List.append_nil, List.mem_cons] at hk
    have h08 : w.heap.size ≤ w8.heap.size := (he07.trans he8).size
    rcases hk with rfl | rfl | rfl | rfl | rfl | hk
    · omega
    · omega
    · omega
    · omega
    · omega
    · exact (hA2 k hk).1
  · intro k hk
    have := hA2 k hk
    have := he9.size
    omega
  · obtain ⟨f1, f2⟩ := loadE_facts hz
    obtain ⟨h8, _⟩ := geo8 hgeo
    show (loadL (opnL d)).length = ((opnC d).2.1.blocks).toNat
    rw [loadL_length (show 1 ≤ perOf d.size by have := (perOf_spec h8).1; omega) f2, hq1.2]
  · obtain ⟨f1, f2⟩ := loadE_facts hz
    obtain ⟨h8, _⟩ := geo8 hgeo
    show (loadL (opnL d)).length = ((opnC d).2.1.blocks).toNat
    rw [loadL_length (show 1 ≤ perOf d.size by have := (perOf_spec h8).1; omega) f2, hq1.2]
  · rintro k (hk | hk)
    · exact .inl hk
    · right
      simp only [spOwn, mkBl, List.append_nil, List.mem_cons] at hk
      have h08 : w.heap.size ≤ w8.heap.size := (he07.trans he8).size
      rcases hk with rfl | rfl | rfl | rfl | rfl | hk
      · omega
      · omega
      · omega
      · omega
      · omega
      · exact (hA2 k hk).1
theorem root_calls {w : World} {b db : Nat} {S : Spa} {F Fd : Nat → Prop} {x : SLC} {hb hr nb nr : Nat} {m : MkL} (h : SpM w b db S F Fd x hb hr nb nr m) :
    Calls Tryz.prog 26 #[.pointer (some ⟨b, 0, none⟩)] w (Ret fun v w' => v = .int .u32 (S.sup.root : Int) ∧ w' = w) := by
  apply calls26
  unfold S26
  obtain ⟨t, hbx⟩ := h.box
  exact splitW_f (by rfl) (ptr_i (boxE (l := .int .u32) 4 (S.sup.root : Int) hbx (by rfl) (by rfl) ⟨rfl, rfl⟩))
end Go.Proofs.YtjdmggaeagnolaaGreat.V
/- Spaces that are well, with what was committed and marked: plain. -/
set_option linter.unusedVariables false
set_option linter.unusedSimpArgs false
namespace Go.Proofs.YtjdmggaeagnolaaGreat.V
open Go Go.Proofs Go.RowKit Crc
/-! ### Counts, put into pages and loaded again -/
theorem wB_le2 {c : Nat} {r : List UInt8} (hc : c < 65536) : wB (le 2 c ++ r) = c :: wB r := by
  unfold wB
  rw [List.length_append, le_length, show (2 + r.length) / 2 = r.length / 2 + 1 by omega, List.range_succ_eq_map, List.map_cons, List.map_map]
  rw [List.cons.injEq]
  refine ⟨?_, ?_⟩
  · rw [Nat.mul_zero, List.drop_zero, List.take_left' (le_length _ _), lev_le2 hc]
  · apply List.map_congr_left
    intro k _
    simp only [Function.comp]
    rw [show 2 * (k.succ) = (le 2 c).length + 2 * k by rw [le_length]; omega, ← List.drop_drop, List.drop_left]
theorem wB_flat : ∀ cs : List Nat, (∀ c ∈ cs, c < 65536) → wB (cs.flatMap (le 2)) = cs
  | [], _ => rfl
  | c :: r, h => by rw [List.flatMap_cons, wB_le2 (h c List.mem_cons_self), wB_flat r (fun x hx => h x (List.mem_cons_of_mem _ hx))]
theorem chunks_take (l : List Nat) (per : Nat) : ∀ k, (List.range k).flatMap (fun i => (l.drop (i * per)).take per) = l.take (k * per)
  | 0 => by simp
  | k + 1 => by
    rw [List.range_succ, List.flatMap_append, chunks_take l per k, Nat.succ_mul, List.take_add]
    simp
theorem loadL_pages {l : List Nat} {per : Nat} (hp : 1 ≤ per) (h : ∀ c ∈ l, c < 65536) : loadL (pagesL l per) = l := by
  unfold loadL pagesL
  rw [List.flatMap_map]
  have e : ((List.range (cutsN l.length per)).flatMap fun i => wB (B ⟨(pageB l per i).toArray⟩)) = (List.range (cutsN l.length per)).flatMap fun i => (l.drop (i * per)).take per := by
    congr 1
    funext i
    rw [B_mk]
    unfold pageB
    exact wB_flat _ (fun c hc => h c (List.mem_of_mem_drop (List.mem_of_mem_take hc)))
  rw [e, chunks_take, List.take_of_length_le]
  have := mt (cutsN_lt (n := l.length) (k := per) (i := cutsN l.length per) hp).2 (by omega)
  omega
theorem freeN_mono {S S' : Spa} (hN : S'.N = S.N) (h : ∀ n, S.isFree n = true → S'.isFree n = true) : S.freeN ≤ S'.freeN := by
  unfold Spa.freeN Spa.freeL
  rw [← List.countP_eq_length_filter, ← List.countP_eq_length_filter, hN]
  refine List.countP_mono_left (fun n _ hn => ?_)
  rw [Bool.and_eq_true] at hn ⊢
  exact ⟨hn.1, h n hn.2⟩
theorem nodup_sub : ∀ {a b : List Nat}, a.Nodup → (∀ x ∈ a, x ∈ b) → a.length ≤ b.length
  | [], b, _, _ => Nat.zero_le _
  | x :: r, b, hn, h => by
    obtain ⟨hx, hr⟩ := List.nodup_cons.1 hn
    have hb := h x List.mem_cons_self
    have := nodup_sub (a := r) (b := b.erase x) hr (fun y hy => by
      have hyx : y ≠ x := fun e => hx (e ▸ hy)
      exact (List.mem_erase_of_ne hyx).2 (h y (List.mem_cons_of_mem _ hy)))
    rw [List.length_erase_of_mem hb] at this
    have := List.length_pos_of_mem hb
    rw [List.length_cons]
    omega
/-! ### What a commit leaves on the device -/
theorem wrL_reads : ∀ (l : List (Nat × Fra)) (d : Dev), DevG d → (∀ p ∈ l, (p.1 : Int) < d.blocks ∧ ((B p.2.2.2).length : Int) ≤ roomOf d.size) → (l.map (·.1)).Nodup →
    ∀ p ∈ l, ((wrL d l).1.read (p.1 : Int)).1 = mkB (putB d.size.toNat p.2)
  | [], d, _, _, _, p, hp => by cases hp
  | kf :: r, d, h, hl, hnd, p, hp => by
    obtain ⟨h1, h2⟩ := hl kf List.mem_cons_self
    obtain ⟨g1, g2, g3⟩ := writeF_good h h1 h2
    obtain ⟨d1, d2, d3⟩ := writeF_dim d kf.1 kf.2
    have hr := fun p hp => hl p (List.mem_cons_of_mem kf hp)
    have hr' : ∀ p ∈ r, (p.1 : Int) < (writeF d kf.1 kf.2).1.blocks ∧ ((B p.2.2.2).length : Int) ≤ roomOf (writeF d kf.1 kf.2).1.size := fun p hp => by rw [d1, d2]; exact hr p hp
    obtain ⟨k1, k2, k3⟩ := wrL_good r _ g2 hr'
    rw [List.map_cons, List.nodup_cons] at hnd
    unfold wrL
    rw [if_neg (fun hh => hh g1)]
    rcases List.mem_cons.1 hp with rfl | hp
    · rw [k3 (p.1 : Int) (by rw [d2]; exact ⟨by omega, h1⟩) (fun q hq e => hnd.1 (List.mem_map.2 ⟨q, hq, by omega⟩)), g3 _ ⟨by omega, h1⟩, if_pos rfl]
    · have := wrL_reads r _ g2 hr' hnd.2 p hp
      rw [this, d1]
theorem pgFs_fst {gen : Nat} {ps : List Nat} {l : List ByteArray} (h : ps.length = l.length) : (pgFs gen ps l).map (·.1) = ps := by
  unfold pgFs
  rw [List.map_map]
  have : (fun p : Nat × ByteArray => p.1) = Prod.fst := rfl
  show (ps.zip l).map Prod.fst = ps
  rw [List.map_fst_zip (by omega)]
theorem commit_reads {d : Dev} (h : DevG d) {c : List Nat} {s : Sup} {slot : Int} (hchk : chk s = 0) (hsz : s.size = d.size) (hps : ∀ p ∈ s.pages, 2 ≤ p ∧ (p : Int) < d.blocks) (hnd : s.pages.Nodup) (hslot : slot = 0 ∨ slot = 1)
    (hlen : s.pages.length = cutsN c.length (perOf d.size)) :
    ((commitD d c s slot).1.read slot).1 = mkB (putS s).1 ∧ (∀ j : Int, 0 ≤ j → j < d.blocks → j ≠ slot → (∀ p ∈ s.pages, (p : Int) ≠ j) → ((commitD d c s slot).1.read j).1 = (d.read j).1) ∧
      ∀ i, i < s.pages.length → ((commitD d c s slot).1.read ((s.pages.getD i 0 : Nat) : Int)).1 = mkB (putB d.size.toNat ((2 : UInt8), s.gen, (pagesL c (perOf d.size)).getD i ByteArray.empty)) := by
  obtain ⟨z, N, e1, e2, e3, e4, e5, e6, e7, e8⟩ := h.ok.facts
  have hPl := pagesL_length c (perOf d.size)
  have hL : ∀ p ∈ pgFs s.gen s.pages (pagesL c (perOf d.size)), p.1 ∈ s.pages ∧ ((B p.2.2.2).length : Int) ≤ roomOf d.size := by
    intro p hp
    unfold pgFs at hp
    obtain ⟨q, hq, rfl⟩ := List.mem_map.1 hp
    have h1 := (List.of_mem_zip hq).1
    have h2 := (List.of_mem_zip hq).2
    refine ⟨h1, ?_⟩
    unfold pagesL at h2
    obtain ⟨i, _, hi⟩ := List.mem_map.1 h2
    show ((B q.2).length : Int) ≤ _
    rw [← hi, B_mk]
    have := pageB_len c (perOf d.size) i
    omega
  have hL' : ∀ p ∈ pgFs s.gen s.pages (pagesL c (perOf d.size)), (p.1 : Int) < d.blocks ∧ ((B p.2.2.2).length : Int) ≤ roomOf d.size := fun p hp => ⟨(hps _ (hL p hp).1).2, (hL p hp).2⟩
  obtain ⟨w1, w2, w3⟩ := wrL_good _ d h hL'
  have w4 := wrL_reads _ d h hL' (by rw [pgFs_fst (by omega)]; exact hnd)
  obtain ⟨dm1, dm2, dm3⟩ := wrL_dim (pgFs s.gen s.pages (pagesL c (perOf d.size))) d
  have hget := fun i (hi : i < s.pages.length) => pgFs_get (gen := s.gen) (ps := s.pages) (l := pagesL c (perOf d.size)) (by omega) (i := i) (by omega)
  obtain ⟨f1, f2, f3, f4⟩ := flush_good w2
  have fd := flush_dim (wrL d (pgFs s.gen s.pages (pagesL c (perOf d.size)))).1
  unfold commitD
  generalize (pgFs s.gen s.pages (pagesL c (perOf d.size))) = L at *
  generalize hr : (wrL d L) = r at *
  have hp0 : (putS s).2 = 0 := by rw [putS_good hchk]
  have hpl := (putS_length hchk).1
  have hs2 : ((((mkB (putS s).1).size : Nat)) : Int) = r.1.flush.1.size := by rw [mkB_size, hpl, fd.1, dm1, hsz]
  have hsl : 0 ≤ slot ∧ slot < r.1.flush.1.blocks := by rw [fd.2.1, dm2]; omega
  obtain ⟨q1, q2, q3⟩ := write_ok f2.ok hsl hs2 f2.fuse
  have hrw := fun (j : Int) (hj : 0 ≤ j ∧ j < r.1.flush.1.blocks) => read_write f2.ok hsl hs2 (by rw [f2.fuse]; decide) (j := j) hj
  have hw0 := (hrw slot hsl).1
  obtain ⟨y1, y2, y3, y4⟩ := flush_good (d := (r.1.flush.1.write slot (mkB (putS s).1)).1) ⟨q1, q2⟩
  rw [if_neg (fun hh => hh w1), if_neg (fun hh => hh f1), if_neg (fun hh => hh hp0), if_neg (fun hh => hh hw0)]
  refine ⟨?_, fun j hj hjb hjs hno => ?_, fun i hi => ?_⟩
  · rw [y4, (hrw slot hsl).2, if_pos rfl]
  · rw [y4 j, (hrw j (by rw [fd.2.1, dm2]; omega)).2, if_neg hjs, f4 j, w3 j ⟨hj, hjb⟩ (fun p hp => hno p.1 (hL p hp).1)]
  · have hg := hget i hi
    have hm := List.mem_of_getElem? hg
    have h2 := hps _ (hL _ hm).1
    dsimp only at h2
    rw [y4, (hrw _ (by rw [fd.2.1, dm2]; omega)).2, if_neg (by omega), f4, w4 _ hm]
/-! ### Spaces -/
structure HeldOK (S : Spa) : Prop where
  slot : S.slot = 0 ∨ S.slot = 1
  chk : chk S.sup = 0
  cur : getS (B (S.dev.read S.slot).1) = (S.sup, 0)
  old : (getS (B (S.dev.read (other S.slot)).1)).2 ≠ 0 ∨ (getS (B (S.dev.read (other S.slot)).1)).1.gen < S.sup.gen
  pgs : ∀ i, i < S.sup.pages.length → (S.dev.read ((S.sup.pages.getD i 0 : Nat) : Int)).1 = mkB (putB S.dev.size.toNat ((2 : UInt8), S.sup.gen, (pagesL S.held (perOf S.dev.size)).getD i ByteArray.empty))
  fit : ∀ c ∈ S.held, c < 65536
def MW (N : Nat) (ps : List Nat) (pg : PgF) : Option (List Nat) → Option (List Nat) → Prop
  | none, none => True
  | some l, some m => WellC N ps pg l m
  | _, _ => False
structure Great (S : Spa) (R H : List Nat) (M : Option (List Nat)) : Prop where
  good : Good S R
  heldOK : HeldOK S
  hwell : WellC S.N S.sup.pages S.page S.held H
  mwell : MW S.N S.sup.pages S.page S.mark M
  room : S.sup.pages.length ≤ S.freeN
theorem MW.pgs_eq {N : Nat} {ps : List Nat} {pg pg' : PgF} {l m : Option (List Nat)} (h : MW N ps pg l m) (ho : ∀ n, cnt l n ≠ 0 → 2 ≤ n → n < N → pg' n = pg n) : MW N ps pg' l m := by
  cases l with
  | none => cases m with
    | none => trivial
    | some _ => exact h.elim
  | some l => cases m with
    | none => exact h.elim
    | some m =>
      have h : WellC N ps pg l m := h
      refine WellC.pgs_eq h (fun n hn => ho n ?_ ?_ (h.lt hn))
      · have := (usedC_iff.1 hn).2.2
        show l.getD n 0 ≠ 0
        omega
      · exact (usedC_iff.1 hn).1
theorem HeldOK.pgsOk {S : Spa} {R : List Nat} (h : HeldOK S) (hg : Good S R) : PgsOk S := by
  obtain ⟨⟨c1, c2, c3, c4⟩, c5, c6⟩ := chk_ok h.chk
  have hN : S.sup.blocks = (S.N : Int) := hg.dims.blocks
  have h4 := pagesOf_cuts (size := S.sup.size) (N := S.N) (by rw [← hN]; exact c1)
  rw [hN, h4] at c4
  refine ⟨hg.well.pgs, ?_, by unfold fmtN at c4; omega⟩
  rw [List.nodup_iff_pairwise_ne, List.pairwise_iff_getElem]
  intro i j hi hj hij e
  apply (c5 j hj).2.2
  rw [List.getD_eq_getElem?_getD, List.getElem?_eq_getElem hj, Option.getD_some, ← e]
  exact List.mem_take_iff_getElem.2 ⟨i, by omega, rfl⟩
theorem great_put {S : Spa} {R H : List Nat} {M : Option (List Nat)} {p : Page} (h : Great S (p.2.1 ++ R) H M) (ht : 3 ≤ p.1.toNat) (hk : (p.2.1.length : Int) ≤ S.room 0 / 4) (hd : (p.2.2.size : Int) ≤ S.room p.2.1.length) (hfree : S.sup.pages.length < S.freeN) :
    (S.put p).2.2 = 0 ∧ PutOk S (S.put p).1 p (S.put p).2.1 ∧ Great (S.put p).1 ((S.put p).2.1 :: R) H M := by
  obtain ⟨h1, h2, h3⟩ := put_good h.good ht hk hd hfree
  refine ⟨h1, h2, ?_⟩
  generalize (S.put p).1 = S' at *
  generalize (S.put p).2.1 = n at *
  have hN : S'.N = S.N := by unfold Spa.N; rw [h2.sup]
  obtain ⟨f1, f2, f3⟩ := isFree_iff.1 h2.free
  have hb := h.good.dims.blocks
  have hn := h.good.dims.n
  have ho := h.heldOK
  have hslot : ∀ j : Int, j = 0 ∨ j = 1 → (S'.dev.read j).1 = (S.dev.read j).1 := fun j hj => h2.read j (by omega) (by omega) (by have := h2.two; omega)
  refine ⟨h3, ⟨?_, ?_, ?_, ?_, ?_, ?_⟩, ?_, ?_, ?_⟩
  · rw [h2.slot]; exact ho.slot
  · rw [h2.sup]; exact ho.chk
  · rw [h2.slot, h2.sup, hslot _ ho.slot]; exact ho.cur
  · rw [h2.slot, h2.sup, hslot _ (by unfold other; split <;> simp)]; exact ho.old
  · intro i hi
    rw [h2.sup] at hi ⊢
    rw [h2.held, h2.dim.1, h2.read _ (by omega) ?_ ?_]
    · exact ho.pgs i hi
    · have := (h.good.well.pgs (S.sup.pages.getD i 0) (by rw [List.getD_eq_getElem?_getD, List.getElem?_eq_getElem hi]; exact List.getElem_mem _)).2.1
      omega
    · intro e
      have e : S.sup.pages.getD i 0 = n := by omega
      apply h2.pgs
      rw [← e, List.getD_eq_getElem?_getD, List.getElem?_eq_getElem hi]; exact List.getElem_mem _
  · rw [h2.held]; exact ho.fit
  · rw [hN, h2.sup, h2.held]
    exact WellC.pgs_eq h.hwell (fun m hm => h2.other m (fun e => by subst e; have := (usedC_iff.1 hm).2.2; omega) (h.hwell.lt hm))
  · rw [hN, h2.sup, h2.mark]
    exact h.mwell.pgs_eq (fun m hm _ hmN => h2.other m (fun e => by subst e; exact hm f3) hmN)
  · have := h2.freeL
    have hh := h.room
    rw [h2.sup]
    unfold Spa.freeN at hfree ⊢
    rw [this] at hfree
    simp only [List.length_cons] at hfree
    omega
theorem Great.setNow {S : Spa} {R R' H : List Nat} {M : Option (List Nat)} {c : List Nat} (h : Great S R H M) (hg : Good { S with now := c } R') (hr : S.sup.pages.length ≤ ({ S with now := c } : Spa).freeN) : Great { S with now := c } R' H M :=
  ⟨hg, ⟨h.heldOK.slot, h.heldOK.chk, h.heldOK.cur, h.heldOK.old, h.heldOK.pgs, h.heldOK.fit⟩, h.hwell, h.mwell, hr⟩
theorem Great.perm {S : Spa} {R R' H : List Nat} {M : Option (List Nat)} (h : Great S R H M) (hp : R.Perm R') : Great S R' H M := ⟨h.good.perm hp, h.heldOK, h.hwell, h.mwell, h.room⟩
/-- Back to what was committed. -/
theorem great_abort {S : Spa} {R H : List Nat} {M : Option (List Nat)} (h : Great S R H M) : Great { S with now := S.held, mark := none } H H none := by
  have hd := h.good.ok
  refine ⟨⟨⟨hd.size, hd.blocks, hd.fits, hd.held, hd.held, fun l hl => by cases hl⟩, h.good.dev, h.good.fuse, h.good.gen, h.hwell⟩, ⟨h.heldOK.slot, h.heldOK.chk, h.heldOK.cur, h.heldOK.old, h.heldOK.pgs, h.heldOK.fit⟩, h.hwell, trivial, Nat.le_trans h.room (freeN_mono rfl fun n hn => ?_)⟩
  obtain ⟨f1, f2, f3⟩ := isFree_iff.1 hn
  exact isFree_iff.2 ⟨f2, f2, rfl⟩
theorem great_open {S : Spa} {R H : List Nat} {M : Option (List Nat)} (h : Great S R H M) : opnOK S.dev ∧ openS S.dev = { S with now := S.held, mark := none } := by
  have ho := h.heldOK
  have hd := h.good.dims
  have hP := ho.pgsOk h.good
  have hsz := h.good.ok.size
  have hgeo := h.good.dev.geo
  obtain ⟨z, N, e1, e2, e3, e4, e5, e6, e7, e8⟩ := h.good.dev.facts
  have hgs : (getS (B (S.dev.read S.slot).1)).2 = 0 := by rw [ho.cur]
  have eC : opnC S.dev = (S.slot, S.sup, 0) := by
    unfold opnC chooseS
    have h1 := ho.cur
    have h2 := ho.old
    rcases ho.slot with e | e
    · rw [e] at h1 h2 ⊢
      have eo : other 0 = 1 := rfl
      rw [eo] at h2
      rw [if_neg (by rw [h1]; exact fun hh => hh.1 rfl), if_neg (by
        rw [h1]
        rintro (hh | ⟨h3, h4⟩)
        · exact hh rfl
        · rcases h2 with h2 | h2
          · exact h2 h3
          · dsimp only at h4; omega), h1]
    · rw [e] at h1 h2 ⊢
      have eo : other 1 = 0 := rfl
      rw [eo] at h2
      rw [if_neg (by rw [h1]; exact fun hh => hh.2 rfl), if_pos (by
        rw [h1]
        rcases h2 with h2 | h2
        · exact .inl h2
        · exact .inr ⟨rfl, h2⟩), h1]
  have hper : 1 ≤ perOf S.dev.size := by omega
  have hPl : (pagesL S.held (perOf S.dev.size)).length = S.sup.pages.length := by
    rw [pagesL_length, hP.len, h.good.ok.held, hsz]
  have ePg : ∀ i, i < S.sup.pages.length → pgK S.dev (S.sup.pages.getD i 0) = (((2 : UInt8), S.sup.gen, (pagesL S.held (perOf S.dev.size)).getD i ByteArray.empty), 0) := by
    intro i hi
    unfold pgK
    rw [ho.pgs i hi, B_mkB]
    have hez : S.dev.size.toNat = z := by omega
    rw [hez]
    have hpl : (B ((pagesL S.held (perOf S.dev.size)).getD i ByteArray.empty)).length ≤ 2 * perOf S.dev.size := by
      have hi' : i < cutsN S.held.length (perOf S.dev.size) := by rw [← pagesL_length]; omega
      unfold pagesL
      rw [List.getD_eq_getElem?_getD, List.getElem?_map, List.getElem?_range hi']
      show (B ⟨(pageB S.held (perOf S.dev.size) i).toArray⟩).length ≤ _
      rw [B_mk]
      exact pageB_len _ _ _
    have hg := h.good.gen
    have := getR_putB (size := z) (f := ((2 : UInt8), S.sup.gen, (pagesL S.held (perOf S.dev.size)).getD i ByteArray.empty)) (by rw [← e1]; omega) (by omega) (by omega) (by dsimp only; omega) (by dsimp only; omega)
    unfold kindR
    rw [this, if_neg (fun hh => hh.2 rfl)]
  have eL : opnL S.dev = pagesL S.held (perOf S.dev.size) := by
    unfold opnL
    rw [eC]
    refine List.ext_getElem? (fun i => ?_)
    show ((S.sup.pages).map fun p => (pgK S.dev p).1.2.2)[i]? = _
    rw [List.getElem?_map]
    by_cases hi : i < S.sup.pages.length
    · have hpi : S.sup.pages[i]? = some (S.sup.pages.getD i 0) := by rw [List.getD_eq_getElem?_getD, List.getElem?_eq_getElem hi]; rfl
      rw [hpi, Option.map_some, ePg i hi, List.getD_eq_getElem?_getD, List.getElem?_eq_getElem (by omega)]
      rfl
    · rw [List.getElem?_eq_none (by omega), List.getElem?_eq_none (by omega)]; rfl
  have eH : loadL (pagesL S.held (perOf S.dev.size)) = S.held := loadL_pages hper ho.fit
  have hbl := hd.blocks
  have hsb := h.good.ok.blocks
  refine ⟨⟨by rw [eC], by rw [eC]; exact hsz, by rw [eC]; exact hsb, fun p hp => ?_, ?_⟩, ?_⟩
  · rw [eC] at hp ⊢
    obtain ⟨i, hi, e⟩ := List.mem_iff_getElem.1 hp
    have e : S.sup.pages.getD i 0 = p := by rw [List.getD_eq_getElem?_getD, List.getElem?_eq_getElem hi]; exact e
    rw [← e, ePg i hi]
    exact ⟨rfl, rfl⟩
  · rw [eL]
    unfold loadE
    have hhl := h.good.ok.held
    have hbN : S.dev.blocks.toNat = S.held.length := by rw [hhl]; omega
    rw [if_neg (by rw [hgeo]; simp), if_neg, eH, if_pos h.hwell.head]
    rw [hbN]
    exact fun hh => hh (pagesL_sizes _ _)
  · unfold openS
    rw [eC, eL, eH]
end Go.Proofs.YtjdmggaeagnolaaGreat.V
