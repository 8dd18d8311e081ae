/- Contracts of the reference's counts: New, Pages, Load. -/
import Derived.Test.YtmogbadaoaikcaaKCounts4
set_option linter.unusedVariables false
set_option linter.unusedSimpArgs false
namespace Go.Proofs.Ytmogbadaoaikcaa.V
open Go Go.Proofs Go.RowKit

/-- The reference's Counts. -/
structure RCnt (w : World) (b r : Nat) (size : Int) (l : List Nat) : Prop where
  head : Blk w b [.int .i64 size, .int .i64 (l.length : Int), .slice (some ⟨r, 0, none⟩) l.length l.length] 56
  row : Blk w r (uV .i64 l) 3
  ne : b ≠ r
  len : 2 ≤ l.length ∧ l.length ≤ 4096
  fits : ∀ n ∈ l, n < 65536
theorem RCnt.ext {w w' : World} {b r : Nat} {size : Int} {l : List Nat} (h : RCnt w b r size l) (he : Ext w w') : RCnt w' b r size l := ⟨h.head.ext he, h.row.ext he, h.ne, h.len, h.fits⟩
theorem RCnt.kept {w w' : World} {b r k : Nat} {size : Int} {l : List Nat} (h : RCnt w b r size l) (hg : w.grownBy w' (some k)) (h1 : b ≠ k) (h2 : r ≠ k) : RCnt w' b r size l :=
  ⟨h.head.grown hg (by simpa using h1), h.row.grown hg (by simpa using h2), h.ne, h.len, h.fits⟩
theorem RCnt.set {w : World} {b r i x : Nat} {size : Int} {l : List Nat} (h : RCnt w b r size l) (hi : i < l.length) (hx : x < 65536) :
    RCnt (w.setCell ⟨r, i, none⟩ (.int .i64 (x : Int))) b r size (l.set i x) ∧ w.grownBy (w.setCell ⟨r, i, none⟩ (.int .i64 (x : Int))) (some r) := by
  have hs := h.row.set i (.int .i64 (x : Int))
  rw [uV_set] at hs
  refine ⟨⟨by rw [List.length_set]; exact h.head.other (fun e => h.ne e.symm) _, hs, h.ne, by rw [List.length_set]; exact h.len, fun n hn => ?_⟩, ⟨rfl, rfl, rfl, by simp, fun k hk hne => Below.heap_setCell _ _ _ _ (fun e => hne (by rw [e]))⟩⟩
  rcases List.mem_or_eq_of_mem_set hn with h1 | h1
  · exact h.fits n h1
  · rw [h1]; exact hx
theorem RCnt.sl {w : World} {b r : Nat} {size : Int} {l : List Nat} (h : RCnt w b r size l) : Sli intE w (some ⟨r, 0, none⟩) l.length (allL l) := by
  have e : intE.flat (allL l) = uV .i64 l := by
    unfold Enc.flat allL uV
    rw [List.flatMap_map]
    exact List.map_eq_flatMap.symm
  refine ⟨by simp [allL], by have := h.len; omega, fun _ => ⟨_, rfl, rfl, fun j v hj => ?_⟩⟩
  rw [add_mk, h.row.cell, Nat.zero_add, ← e]
  exact hj
theorem RCnt.rd {w : World} {b r i : Nat} {size : Int} {l : List Nat} {K : Int → WP} {L : Nat} {A : Option Addr} (h : RCnt w b r size l) (hi : i < l.length) (hA : A = some ⟨r, 0, none⟩) (hL : L = l.length) (hK : K ((l.getD i 0 : Nat) : Int) w) :
    (guardW (0 ≤ (i : Int) ∧ (i : Int) < ((L : Nat) : Int)) <| ptrW A fun p => ldW (.int .i64) (p.add (Int.toNat (i : Int) * 1)) K) w := by
  subst hA hL
  refine guard_i ⟨by omega, by omega⟩ (ptr_i ?_)
  rw [Int.toNat_natCast, Nat.mul_one]
  exact ld_blk h.row (uV_get hi) hK
theorem elem_intO : Elem Try.prog 37 3 (.int .i64 0) 8 := by
  refine ⟨by kernel_rfl, by kernel_rfl, rfl⟩
theorem refnew_calls (w : World) (size blocks : Int) : Calls Try.prog 38 #[.agg #[.int .i64 size, .int .i64 blocks]] w (Ret fun v w' => ∃ x : Option Addr, v = .tuple #[.pointer x, .int .i64 (if geoOK size blocks then 0 else 2)] ∧ (if geoOK size blocks then ∃ b r, x = some ⟨b, 0, none⟩ ∧ RCnt w' b r size (newL blocks.toNat) ∧ w.heap.size ≤ b ∧ w.heap.size ≤ r else x = none) ∧ Ext w w') := by
  apply calls38
  unfold S38
  apply newW_i
  have hb : Blk (w.alloc (.cells #[(.int .i64 size), (.int .i64 blocks)] 23)) w.heap.size [(.int .i64 size), (.int .i64 blocks)] 23 := Blk.new w _ _
  have he : Ext w (w.alloc (.cells #[(.int .i64 size), (.int .i64 blocks)] 23)) := (Ext.refl w).alloc _
  generalize w.alloc (.cells #[(.int .i64 size), (.int .i64 blocks)] 23) = w1 at hb he ⊢
  refine ldA_blk (ls := [(.int .i64), (.int .i64)]) (x := (size, blocks, ())) hb rfl ?_
  refine callW_of (refcheck_calls w1 size blocks) ?_
  rintro _ w2 ⟨rfl, he2⟩
  refine ⟨_, rfl, ?_⟩
  have he02 := he.trans he2
  have hb2 := hb.ext he2
  cases hok : geoOK size blocks with
  | false =>
    rw [if_neg (by simp)]
    refine splitW_t (by rfl) ?_
    exact ⟨none, rfl, by rw [if_neg (by simp)], he02⟩
  | true =>
    rw [if_pos rfl]
    refine splitW_f (by rfl) ?_
    obtain ⟨h8, n, rfl, hn1, hn2⟩ := geo8 hok
    have he3 := he02.drew
    have hb3 := hb2.drew
    show (ldAW _ _ _) w2.drew
    generalize w2.drew = w3 at he3 hb3 ⊢
    refine ldA_blk (ls := [(.int .i64), (.int .i64)]) (x := (size, (n : Int), ())) hb3 rfl ?_
    refine ld_blk (o := 1) (x := (n : Int)) hb3 (by rfl) ?_
    refine make_own (B := w3.heap.size) elem_intO rfl (Nat.le_refl _) (by omega) (by omega) ?_
    intro w4 ho4 hg4
    have he4 : Ext w w4 := he3.none hg4
    have h34 : Ext w3 w4 := (Ext.refl w3).none hg4
    have hrow : Blk w4 w3.heap.size (List.replicate n (.int .i64 0)) 3 := own_full ho4
    have hr1 : w.heap.size ≤ w3.heap.size := he3.size
    generalize w3.heap.size = r at hrow hr1 ⊢
    have hb4 := hb3.ext h34
    refine ⟨fun ls hls p hp => ?_, ?_⟩
    · simp only [List.mem_singleton] at hls
      subst hls
      have hc := hb4.cellsAt
      rcases List.mem_cons.1 hp with rfl | hp
      · exact hc.1
      · rcases List.mem_cons.1 hp with rfl | hp
        · exact hc.2.1
        · cases hp
    apply newW_i
    have hnb := Blk.new w4 #[(.int .i64 size), (.int .i64 (n : Int)), (.slice (some ⟨r, 0, none⟩) n n)] 56
    have hrow5 := hrow.alloc (.cells #[(.int .i64 size), (.int .i64 (n : Int)), (.slice (some ⟨r, 0, none⟩) n n)] 56)
    have he5 := he4.alloc (.cells #[(.int .i64 size), (.int .i64 (n : Int)), (.slice (some ⟨r, 0, none⟩) n n)] 56)
    have hrlt := hrow.lt
    have hb1 := he4.size
    dsimp only at hnb hrow5 he5 ⊢
    generalize w4.alloc (.cells #[(.int .i64 size), (.int .i64 (n : Int)), (.slice (some ⟨r, 0, none⟩) n n)] 56) = w5 at hnb hrow5 he5 ⊢
    generalize w4.heap.size = b at hnb hrlt hb1 ⊢
    have he6 := he5.drew
    have hnb6 := hnb.drew
    have hrow6 := hrow5.drew
    show (ptrW _ _) w5.drew
    generalize w5.drew = w6 at he6 hnb6 hrow6 ⊢
    refine ptr_i ?_
    refine ld_blk (o := 2) (x := (some ⟨r, 0, none⟩, n, n)) hnb6 (by rfl) ?_
    refine ptr_i ?_
    refine ld_blk (o := 2) (x := (some ⟨r, 0, none⟩, n, n)) hnb6 (by rfl) ?_
    dsimp only
    refine guard_i ⟨by omega, by omega⟩ (ptr_i ?_)
    rw [show ((⟨r, 0, none⟩ : Addr).add (Int.toNat 0 * 1)) = ⟨r, 0, none⟩ by rw [add_mk]; rfl]
    refine stW_blk hrow6 (by rw [List.length_replicate]; omega) ?_
    have hrow7 := hrow6.set 0 (.int .i64 1)
    have hnb7 := hnb6.other (p := ⟨r, 0, none⟩) (by simp only; omega) (.int .i64 1)
    have he7 := he6.set (p := ⟨r, 0, none⟩) hr1 (.int .i64 1)
    refine guard_i ⟨by omega, by omega⟩ (ptr_i ?_)
    rw [show ((⟨r, 0, none⟩ : Addr).add (Int.toNat 1 * 1)) = ⟨r, 1, none⟩ by rw [add_mk]; rfl]
    refine stW_blk hrow7 (by rw [List.length_set, List.length_replicate]; omega) ?_
    have hrow8 := hrow7.set 1 (.int .i64 1)
    have hnb8 := hnb7.other (p := ⟨r, 1, none⟩) (by simp only; omega) (.int .i64 1)
    have he8 := he7.set (p := ⟨r, 1, none⟩) hr1 (.int .i64 1)
    refine ⟨some ⟨b, 0, none⟩, rfl, ?_, he8⟩
    rw [if_pos rfl]
    have hlen : (newL (Int.toNat (n : Int))).length = n := by simp [newL]; omega
    have hcells : ((List.replicate n (Value.int .i64 0)).set 0 (.int .i64 1)).set 1 (.int .i64 1) = uV .i64 (newL (Int.toNat (n : Int))) := by
      rw [Int.toNat_natCast]
      obtain ⟨m, rfl⟩ : ∃ m, n = m + 2 := ⟨n - 2, by omega⟩
      simp [newL, uV, List.replicate_succ]
    rw [hcells] at hrow8
    refine ⟨b, r, rfl, ⟨by rw [hlen]; exact hnb8, hrow8, by omega, by rw [hlen]; omega, fun x hx => ?_⟩, hb1, hr1⟩
    simp only [newL, List.mem_cons, List.mem_replicate] at hx
    omega
theorem pageB_succ {l : List Nat} {per i j : Nat} (h : i * per + j < l.length) (hj : j < per) : (((l.drop (i * per)).take per).take (j + 1)).flatMap (le 2) = (((l.drop (i * per)).take per).take j).flatMap (le 2) ++ le 2 (l.getD (i * per + j) 0) := by
  have hlen : j < ((l.drop (i * per)).take per).length := by simp; omega
  rw [List.take_succ_eq_append_getElem hlen, List.flatMap_append]
  congr 1
  simp [List.getElem?_eq_getElem h]
theorem refpages_calls {w : World} {b r : Nat} {size : Int} {l : List Nat} (h : RCnt w b r size l) (hs : geoOK size 8 = true) : Calls Try.prog 39 #[.pointer (some ⟨b, 0, none⟩)] w (Ret fun v w' => ∃ x : Option Addr × Nat × Nat, v = .slice x.1 x.2.1 x.2.2 ∧ Owni strE 9 w' w.heap.size x.1 x.2.1 x.2.2 (pagesL l (perOf size)) ∧ Ext w w') := by
  apply calls39
  unfold S39
  have hl := h.len
  obtain ⟨hp1, hp2, hper⟩ := perOf_spec hs
  refine ptr_i ?_
  refine ldW_blk (x := size) h.head (by rfl) ?_
  refine callW_of (refroom_calls w size) ?_
  rintro _ w1 ⟨rfl, he1⟩
  refine ⟨_, rfl, ?_⟩
  simp only [hper]
  generalize hper2 : perOf size = per at *
  have hrd : ∀ {w' : World} {K : (Option Addr × Nat × Nat) → WP}, Ext w w' → K (some ⟨r, 0, none⟩, l.length, l.length) w' → (ptrW (some (⟨b, 0, none⟩ : Addr)) fun (p : Addr) => ldW .slc (p.add 2) K) w' := fun {w' K} he hk => ptr_i (ld_blk (o := 2) (x := (some ⟨r, 0, none⟩, l.length, l.length)) (h.ext he).head (by rfl) hk)
  have hcn : cutsN l.length per ≤ l.length := by
    unfold cutsN
    rw [Nat.div_le_iff_le_mul_add_pred (by omega)]
    have : 1 * l.length ≤ per * l.length := Nat.mul_le_mul_right _ (by omega)
    omega
  refine loopW_i (fun y w' => ∃ (i : Nat) (A : Option Addr) (c : Nat), i ≤ cutsN l.length per ∧ y = ((A, i, c), ((i * per : Nat) : Int), ()) ∧ Ext w w' ∧ Owni strE 9 w' w.heap.size A i c ((pagesL l per).take i)) (fun y => (cutsN l.length per - y.1.2.1)) ⟨0, none, 0, by omega, by simp, he1, Owni.nil _ _ _⟩ ?_
  rintro _ w2 ⟨i, A, c, hi, rfl, he2, ho⟩
  dsimp only
  refine hrd he2 ?_
  dsimp only
  by_cases hlt : i * per < l.length
  · refine splitW_t (decide_eq_true (by omega)) ?_
    have hic := (cutsN_lt (k := per) (by omega)).2 hlt
    -- what comes behind the inner loop
    have hfin : ∀ {w' : World} {A2 : Option Addr} {n2 c2 : Nat} {I : ((Option Addr × Nat × Nat) × Int × Unit) → WP}, Ext w2 w' → Own 5 w' w2.heap.size A2 n2 c2 (bV (pageB l per i)) →
        (∀ A3 c3 w3, Ext w w3 → Owni strE 9 w3 w.heap.size A3 (i + 1) c3 ((pagesL l per).take (i + 1)) → I ((A3, i + 1, c3), ((i + 1) * per : Nat), ()) w3) →
        (runW Try.prog (Go.convert 74 9 (.slice A2 n2 c2)) .str fun (u17 : ByteArray) =>
          newW (.cells #[(.string u17)] 9) fun (r18 : Nat) =>
          runW Try.prog (Builtin.append_ #[46, 46] 46 #[(.slice A i c), (.slice (some (⟨r18, 0, none⟩ : Addr)) 1 1)]) .slc fun (u19 : (Option Addr × Nat × Nat)) => I ((u19.1, u19.2.1, u19.2.2), (IntKind.wrap .i64 (((i * per : Nat) : Int) + ((per : Nat) : Int))), ())) w' := by
      intro w' A2 n2 c2 I he ho2 hI
      refine conv_str (e := 5) (by kernel_rfl) (by kernel_rfl) (by kernel_rfl) ho2.sl ?_
      refine append_newi (E := strE) (ys := [(⟨(pageB l per i).toArray⟩ : ByteArray)]) (by rfl) rfl elem_strK (ho.ext he) (by have := he.size; have := he2.size; omega) (by omega) (by omega) ?_
      intro A3 c3 w3 ho3 hg3
      rw [wrap_i64 (by omega) (by omega), show ((i * per : Nat) : Int) + ((per : Nat) : Int) = (((i + 1) * per : Nat) : Int) by rw [Nat.succ_mul]; omega]
      refine hI A3 c3 w3 ((he2.trans he).grown hg3.grown (fun j hj => ho.row j hj)) ?_
      have e9 : (pagesL l per).take (i + 1) = (pagesL l per).take i ++ [(⟨(pageB l per i).toArray⟩ : ByteArray)] := by
        rw [List.take_succ_eq_append_getElem (by simpa [pagesL] using hic)]
        simp [pagesL]
      rw [e9]
      exact ho3
    refine loopW_i (fun y w' => ∃ (j : Nat) (A2 : Option Addr) (c2 : Nat), j ≤ min per (l.length - i * per) ∧ y = ((A2, 2 * j, c2), ((i * per + j : Nat) : Int), ()) ∧ Ext w2 w' ∧ Own 5 w' w2.heap.size A2 (2 * j) c2 (bV ((((l.drop (i * per)).take per).take j).flatMap (le 2)))) (fun y => (i * per + per - y.2.1).toNat) ⟨0, none, 0, by omega, rfl, Ext.refl _, Own.nil _ _ _⟩ ?_
    rintro _ w3 ⟨j, A2, c2, hj, rfl, he3, ho3⟩
    dsimp only
    have he23 := he2.trans he3
    refine hrd he23 ?_
    dsimp only
    have hwr : IntKind.wrap .i64 (((i * per : Nat) : Int) + ((per : Nat) : Int)) = ((i * per + per : Nat) : Int) := by rw [wrap_i64 (by omega) (by omega)]; omega
    have hfull : j = min per (l.length - i * per) → ((((l.drop (i * per)).take per).take j).flatMap (le 2)) = pageB l per i := by
      intro e
      unfold pageB
      rw [List.take_of_length_le (by simp; omega)]
    by_cases h1 : i * per + j < l.length
    · refine splitW_t (decide_eq_true (by omega)) ?_
      by_cases h2 : j < per
      · refine splitW_t (decide_eq_true (by rw [hwr]; omega)) ?_
        refine hrd he23 ?_
        refine (h.ext he23).rd (i := i * per + j) h1 rfl rfl ?_
        have hlt16 : l.getD (i * per + j) 0 < 65536 := by
          rw [List.getD_eq_getElem?_getD, List.getElem?_eq_getElem h1]
          exact h.fits _ (List.getElem_mem h1)
        rw [wrap_u64_nat (by omega)]
        refine callW_of (put_calls (k := 2) ho3 he3.size (by omega) (by omega) (by omega) (by omega)) ?_
        rintro _ w4 ⟨x, rfl, ho4, hg4⟩
        refine ⟨x, rfl, ?_⟩
        have hlen : x.2.1 = 2 * (j + 1) := by
          have := ho4.sl.blen
          rw [List.length_append, le_length] at this
          have := ho3.sl.blen
          omega
        obtain ⟨x1, x2, x3⟩ := x
        dsimp only at hlen ho4 hg4 ⊢
        subst hlen
        rw [wrap_i64 (by omega) (by omega), show ((i * per + j : Nat) : Int) + 1 = ((i * per + (j + 1) : Nat) : Int) by omega]
        refine ⟨⟨j + 1, x1, x3, by omega, rfl, he3.grown hg4.grown ho3.row', ?_⟩, by omega⟩
        rw [pageB_succ h1 h2]
        exact ho4
      · refine splitW_f (decide_eq_false (by rw [hwr]; omega)) ?_
        rw [hfull (by omega)] at ho3
        exact hfin (I := fun y w' => (∃ (i : Nat) (A : Option Addr) (c : Nat), i ≤ cutsN l.length per ∧ y = ((A, i, c), ((i * per : Nat) : Int), ()) ∧ Ext w w' ∧ Owni strE 9 w' w.heap.size A i c ((pagesL l per).take i)) ∧ (cutsN l.length per - y.1.2.1) < (cutsN l.length per - i)) he3 ho3 (fun A3 c3 w4 a b => ⟨⟨i + 1, A3, c3, by omega, rfl, a, b⟩, by dsimp only; omega⟩)
    · refine splitW_f (decide_eq_false (by omega)) ?_
      rw [hfull (by omega)] at ho3
      exact hfin (I := fun y w' => (∃ (i : Nat) (A : Option Addr) (c : Nat), i ≤ cutsN l.length per ∧ y = ((A, i, c), ((i * per : Nat) : Int), ()) ∧ Ext w w' ∧ Owni strE 9 w' w.heap.size A i c ((pagesL l per).take i)) ∧ (cutsN l.length per - y.1.2.1) < (cutsN l.length per - i)) he3 ho3 (fun A3 c3 w4 a b => ⟨⟨i + 1, A3, c3, by omega, rfl, a, b⟩, by dsimp only; omega⟩)
  · refine splitW_f (decide_eq_false (by omega)) ?_
    have hic := mt (cutsN_lt (n := l.length) (k := per) (i := i) (by omega)).1 hlt
    obtain rfl : i = cutsN l.length per := by omega
    refine ⟨(A, cutsN l.length per, c), rfl, ?_, he2⟩
    rw [List.take_of_length_le (by simp [pagesL])] at ho
    exact ho
theorem lev2 {bs : List UInt8} {k : Nat} (h : 2 * k + 1 < bs.length) : lev ((bs.drop (2 * k)).take 2) = (bs.getD (2 * k) 0).toNat + 256 * (bs.getD (2 * k + 1) 0).toNat := by
  rw [List.drop_eq_getElem_cons (by omega), List.drop_eq_getElem_cons (by omega)]
  show lev [bs[2 * k], bs[2 * k + 1]] = _
  simp [lev, show 2 * k < bs.length by omega, h]
theorem refload_calls {w : World} {size blocks : Int} {A : Option Addr} {np c : Nat} {ps : List ByteArray} (hp : Sli strE w A np ps) :
    Calls Try.prog 22 #[.agg #[.int .i64 size, .int .i64 blocks], .slice A np c] w (Ret fun v w' => ∃ x : Option Addr, v = .tuple #[.pointer x, .int .i64 (loadE size blocks ps)] ∧ (if loadE size blocks ps = 0 then ∃ b r, x = some ⟨b, 0, none⟩ ∧ RCnt w' b r size (loadL ps) ∧ w.heap.size ≤ b ∧ w.heap.size ≤ r else x = none) ∧ Ext w w') := by
  apply calls22
  unfold S22
  have hpl := hp.len
  have hple := hp.2.1
  apply newW_i
  have hb : Blk (w.alloc (.cells #[(.int .i64 size), (.int .i64 blocks)] 23)) w.heap.size [(.int .i64 size), (.int .i64 blocks)] 23 := Blk.new w _ _
  have he : Ext w (w.alloc (.cells #[(.int .i64 size), (.int .i64 blocks)] 23)) := (Ext.refl w).alloc _
  generalize w.alloc (.cells #[(.int .i64 size), (.int .i64 blocks)] 23) = w1 at hb he ⊢
  generalize hgb : w.heap.size = gb at hb ⊢
  refine ldA_blk (ls := [(.int .i64), (.int .i64)]) (x := (size, blocks, ())) hb rfl ?_
  refine callW_of (refnew_calls w1 size blocks) ?_
  rintro _ w2 ⟨x, rfl, hx, he2⟩
  refine ⟨(x, (if geoOK size blocks then 0 else 2), ()), rfl, ?_⟩
  have he02 := he.trans he2
  have hb2 := hb.ext he2
  dsimp only
  cases hok : geoOK size blocks with
  | false =>
    have e : loadE size blocks ps = 2 := by unfold loadE; rw [if_pos hok]
    rw [if_neg (by simp)]
    refine splitW_t (by rfl) ⟨none, by rw [e], by rw [e, if_neg (by omega)], he02⟩
  | true =>
  rw [if_pos rfl]
  refine splitW_f (by rfl) ?_
  rw [hok, if_pos rfl] at hx
  obtain ⟨b, r, rfl, hc, hbw, hrw⟩ := hx
  obtain ⟨h8, n, rfl, hn1, hn2⟩ := geo8 hok
  rw [Int.toNat_natCast] at hc
  have hs1 := he.size
  have hE : ∀ z, loadE size n ps = z ↔ (if ¬ fitsP n (perOf size) ps then 4 else if (loadL ps).getD 0 0 = 1 ∧ (loadL ps).getD 1 0 = 1 then 0 else 4) = z := fun z => by
    unfold loadE
    rw [if_neg (by rw [hok]; simp), Int.toNat_natCast]
  refine ldA_blk (ls := [(.int .i64), (.int .i64)]) (x := (size, (n : Int), ())) hb2 rfl ?_
  refine callW_of (refspages_calls w2 size n) ?_
  rintro _ w3 ⟨rfl, he3⟩
  refine ⟨_, rfl, ?_⟩
  have he03 := he02.trans he3
  rw [spages_geo hok]
  obtain ⟨hp1, hp2, _⟩ := perOf_spec h8
  refine splitW_i (fun hne => ?_) (fun heq => ?_)
  · have hne := bne_iff_ne.1 hne
    have e : loadE size n ps = 4 := by
      rw [hE, if_pos]
      intro hf
      have := fitsP_len hf
      omega
    exact ⟨none, by rw [e], by rw [e, if_neg (by omega)], he03⟩
  have heq := bne_eq_false_iff_eq.1 heq
  have hc3 := hc.ext he3
  refine callW_of (refpages_calls hc3 h8) ?_
  rintro _ w4 ⟨⟨A2, n2, c2⟩, rfl, ho, he4⟩
  refine ⟨(A2, n2, c2), rfl, ?_⟩
  dsimp only at ho ⊢
  have he04 := he03.trans he4
  have hc4 := hc3.ext he4
  obtain ⟨per, hper⟩ : ∃ per, per = perOf size := ⟨_, rfl⟩
  rw [← hper] at hp1 hp2 hE ho heq
  have hwant := pagesL_sizes (newL n) per
  have hNl := newL_length (n := n) (by omega)
  rw [hNl] at hwant
  have hn2 : np = n2 := by
    have := ho.len
    rw [fitsP_len hwant] at this
    omega
  subst hn2
  have hwl : (pagesL (newL n) per).length = np := ho.len
  have hcr : r < w3.heap.size := hc3.row.lt
  have hpn : np = cutsN n per := by omega
  have hcn : np ≤ n := by
    rw [hpn]
    unfold cutsN
    rw [Nat.div_le_iff_le_mul_add_pred (by omega)]
    have : 1 * n ≤ per * n := Nat.mul_le_mul_right _ (by omega)
    omega
  have hgr : ∀ {w' w'' : World}, Ext w w' → w'.grownBy w'' (some r) → Ext w w'' := fun he hg => he.grown hg (fun j hj => by injection hj with hj; omega)
  -- sizes of the pages ahead of i fit
  have wsz : ∀ i, i < np → ((pagesL (newL n) per).getD i ByteArray.empty).size = 2 * min per (n - i * per) := fun i hi => by
    have := fitsP_size hwant (i := i) (by omega)
    rw [List.getD_eq_getElem?_getD, List.getElem?_eq_getElem (by omega), Option.getD_some, B_size]
    exact this
  have hpart : ∀ i, i ≤ np → (∀ j, j < i → (ps.getD j ByteArray.empty).size = 2 * min per (n - j * per)) → (loadL (ps.take i)).length = min n (i * per) := fun i hi hj => by
    unfold loadL
    rw [List.length_flatMap, ← sum_cuts n per i]
    congr 1
    apply List.ext_getElem
    · simp; omega
    · intro j h1 h2
      have hjl : j < ps.length := by simp at h1; omega
      have := hj j (by simp at h2; omega)
      rw [List.getD_eq_getElem?_getD, List.getElem?_eq_getElem hjl, Option.getD_some] at this
      simp only [List.getElem_map, List.getElem_take, List.getElem_range, wB_length, ← B_size, this]
      omega
  have hnot : ∀ i, i < np → (ps.getD i ByteArray.empty).size ≠ 2 * min per (n - i * per) → loadE size n ps = 4 := fun i hi hne => by
    rw [hE, if_pos]
    intro hf
    apply hne
    have := fitsP_size hf (i := i) (by omega)
    rw [List.getD_eq_getElem?_getD, List.getElem?_eq_getElem (by omega), Option.getD_some, B_size]
    exact this
  refine loopW_i (fun y w' => ∃ i : Nat, i ≤ np ∧ y = (((loadL (ps.take i)).length : Int), (i : Int), ()) ∧ Ext w w' ∧ RCnt w' b r size (merge (loadL (ps.take i)) (newL n) (loadL (ps.take i)).length) ∧ Owni strE 9 w' w3.heap.size A2 np c2 (pagesL (newL n) per) ∧ ∀ j, j < i → (ps.getD j ByteArray.empty).size = 2 * min per (n - j * per)) (fun y => (np - y.2.1).toNat) ⟨0, by omega, by simp [loadL], he04, by rw [show (loadL (ps.take 0)).length = 0 by simp [loadL], merge_zero]; exact hc4, ho, fun j hj => by omega⟩ ?_
  rintro _ w5 ⟨i, hi, rfl, he5, hc5, ho5, hszs⟩
  dsimp only
  have hat := hpart i hi hszs
  by_cases hlt : i < np
  · refine splitW_t (decide_eq_true (by omega)) ?_
    have hw6 : Ext w5 w5.drew := (Ext.refl w5).drew
    have he6 := he5.drew
    have hc6 := hc5.ext hw6
    have ho6 := ho5.ext hw6
    show (guardW _ _) w5.drew
    generalize w5.drew = w6 at he6 hc6 ho6 ⊢
    refine idx_str (hp.ext he6) (by omega) (by omega) ?_
    refine idx_str ho6.sl (by omega) (by omega) ?_
    rw [Int.toNat_natCast, wsz i hlt]
    have hip : i < ps.length := by omega
    have eg : ps.getD i ByteArray.empty = ps[i] := by simp [hip]
    have hsu := part_succ hip
    refine splitW_i (fun hne => ?_) (fun heq2 => ?_)
    · have hne := bne_iff_ne.1 hne
      have e := hnot i hlt (by omega)
      exact ⟨none, by rw [e], by rw [e, if_neg (by omega)], he6⟩
    have heq2 := bne_eq_false_iff_eq.1 heq2
    have hsz1 : (ps.getD i ByteArray.empty).size = 2 * min per (n - i * per) := by omega
    have hszs' : ∀ j, j < i + 1 → (ps.getD j ByteArray.empty).size = 2 * min per (n - j * per) := fun j hj => by
      by_cases hji : j = i
      · subst hji; exact hsz1
      · exact hszs j (by omega)
    have hat2 := hpart (i + 1) (by omega) hszs'
    have hin : i * per < n := (cutsN_lt (k := per) (by omega)).1 (by omega)
    have hsplit : loadL (ps.take (i + 1)) = loadL (ps.take i) ++ wB (B (ps.getD i ByteArray.empty)) := by
      rw [List.take_succ_eq_append_getElem hip, eg]
      unfold loadL
      rw [List.flatMap_append]
      simp
    rw [← eg] at hsu
    have hDlt : ∀ x ∈ loadL (ps.take (i + 1)), x < 65536 := loadL_lt _
    have hi1 : ∀ {w' : World} {K : ByteArray → WP}, Ext w w' → K (ps.getD i ByteArray.empty) w' → (guardW (0 ≤ (i : Int) ∧ (i : Int) < ((np : Nat) : Int)) <| ptrW A fun (p : Addr) => ldW .str (p.add (Int.toNat (i : Int) * 1)) K) w' := fun {w' K} he hk => idx_str (hp.ext he) (by omega) (by omega) (by rw [Int.toNat_natCast]; exact hk)
    generalize ps.getD i ByteArray.empty = s at hsz1 hsu hsplit heq2 hi1
    have hBs := B_size s
    obtain ⟨D, hD⟩ : ∃ D, D = loadL (ps.take (i + 1)) := ⟨_, rfl⟩
    rw [← hD] at hsplit hsu hat2 hDlt
    have hm0 : merge (loadL (ps.take i)) (newL n) (loadL (ps.take i)).length = merge D (newL n) (loadL (ps.take i)).length := by
      unfold merge
      rw [hsplit, List.take_left, List.take_length]
    have hgetD : ∀ q, q < (B s).length / 2 → D.getD ((loadL (ps.take i)).length + q) 0 = ((B s).getD (2 * q) 0).toNat + 256 * ((B s).getD (2 * q + 1) 0).toNat := fun q hq => by
      rw [hsplit, List.getD_eq_getElem?_getD, List.getElem?_append_right (by omega), Nat.add_sub_cancel_left, ← List.getD_eq_getElem?_getD, wB_get hq, lev2 (by omega)]
    rw [hm0] at hc6
    generalize hz : (loadL (ps.take i)).length = at0 at *
    refine loopW_i (fun y w' => ∃ q : Nat, q ≤ s.size / 2 ∧ y = (((at0 + q : Nat) : Int), ((2 * q : Nat) : Int), ()) ∧ Ext w w' ∧ RCnt w' b r size (merge D (newL n) (at0 + q)) ∧ Owni strE 9 w' w3.heap.size A2 np c2 (pagesL (newL n) per)) (fun y => (s.size - y.2.1).toNat) ⟨0, by omega, rfl, he6, hc6, ho6⟩ ?_
    rintro _ w7 ⟨q, hq, rfl, he7, hc7, ho7⟩
    dsimp only
    refine hi1 he7 ?_
    by_cases hqs : 2 * q < s.size
    · refine splitW_t (decide_eq_true (by omega)) ?_
      have hw8 : Ext w7 w7.drew := (Ext.refl w7).drew
      have he8 := he7.drew
      have hc8 := hc7.ext hw8
      have ho8 := ho7.ext hw8
      show (ptrW _ _) w7.drew
      generalize w7.drew = w8 at he8 hc8 ho8 ⊢
      have hmlen := merge_length' (D := D) (N := newL n) (m := at0 + q) (by omega) (by omega)
      refine ptr_i (ld_blk (o := 2) (x := (some ⟨r, 0, none⟩, (merge D (newL n) (at0 + q)).length, (merge D (newL n) (at0 + q)).length)) hc8.head (by rfl) ?_)
      refine hi1 he8 ?_
      refine guard_i ⟨by omega, by omega⟩ ?_
      refine hi1 he8 ?_
      rw [wrap_i64 (x := ((2 * q : Nat) : Int) + 1) (by omega) (by omega)]
      refine guard_i ⟨by omega, by omega⟩ ?_
      dsimp only
      refine guard_i ⟨by omega, by omega⟩ (ptr_i ?_)
      rw [bt_eq (by omega) (by omega), bt_eq (by omega) (by omega), Int.toNat_natCast, show Int.toNat (((2 * q : Nat) : Int) + 1) = 2 * q + 1 by omega, Int.toNat_natCast, Nat.mul_one, add_mk, Nat.zero_add]
      have hb1 := ((B s).getD (2 * q) 0).toNat_lt
      have hb2 := ((B s).getD (2 * q + 1) 0).toNat_lt
      have hg := hgetD q (by omega)
      rw [wrap_i64 (x := (((B s).getD (2 * q) 0).toNat : Int)) (by omega) (by omega), wrap_i64 (x := (((B s).getD (2 * q + 1) 0).toNat : Int)) (by omega) (by omega), wrap_i64 (x := (256 : Int) * _) (by omega) (by omega), wrap_i64 (by omega) (by omega)]
      rw [show (((B s).getD (2 * q) 0).toNat : Int) + 256 * (((B s).getD (2 * q + 1) 0).toNat : Int) = ((D.getD (at0 + q) 0 : Nat) : Int) by rw [hg]; omega]
      refine stW_blk hc8.row (by rw [length_uV]; omega) ?_
      obtain ⟨hc9, hg9⟩ := hc8.set (i := at0 + q) (x := D.getD (at0 + q) 0) (by omega) (by omega)
      rw [merge_set (by omega) (by omega)] at hc9
      rw [wrap_i64 (x := ((at0 + q : Nat) : Int) + 1) (by omega) (by omega), wrap_i64 (x := ((2 * q : Nat) : Int) + 2) (by omega) (by omega)]
      refine ⟨⟨q + 1, by omega, by congr 1, hgr he8 hg9, hc9, ho8.grown hg9 (fun j hj hjj => by injection hj with hj; have := ho8.row j hjj; omega)⟩, by omega⟩
    · refine splitW_f (decide_eq_false (by omega)) ?_
      obtain rfl : q = s.size / 2 := by omega
      rw [wrap_i64 (by omega) (by omega)]
      have hfin : at0 + s.size / 2 = D.length := by omega
      rw [hfin] at hc7 ⊢
      subst hD
      exact ⟨⟨i + 1, by omega, rfl, he7, hc7, ho7, hszs'⟩, by omega⟩
  · obtain rfl : i = np := by omega
    refine splitW_f (decide_eq_false (by omega)) ?_
    have hf : fitsP n per ps := by
      unfold fitsP sizes
      rw [← hpn]
      apply List.ext_getElem
      · simp; omega
      · intro j h1 h2
        have hjl : j < ps.length := by simpa using h1
        have := hszs j (by omega)
        rw [List.getD_eq_getElem?_getD, List.getElem?_eq_getElem hjl, Option.getD_some] at this
        simpa using this
    have hDl := loadL_length (by omega) hf
    rw [List.take_of_length_le (by omega), merge_full (by omega)] at hc5
    have rd : ∀ {K : (Option Addr × Nat × Nat) → WP}, K (some ⟨r, 0, none⟩, (loadL ps).length, (loadL ps).length) w5 → (ptrW (some (⟨b, 0, none⟩ : Addr)) fun (p : Addr) => ldW .slc (p.add 2) K) w5 := fun {K} hk =>
      ptr_i (ld_blk (o := 2) (x := (some ⟨r, 0, none⟩, (loadL ps).length, (loadL ps).length)) hc5.head (by rfl) hk)
    refine rd ?_
    dsimp only
    refine hc5.rd (i := 0) (by omega) rfl rfl ?_
    refine splitW_i (fun h0 => ?_) (fun h0 => ?_)
    · have h0 := bne_iff_ne.1 h0
      have e : loadE size n ps = 4 := by rw [hE, if_neg (by simpa using hf), if_neg (by omega)]
      exact ⟨none, by rw [e], by rw [e, if_neg (by omega)], he5⟩
    refine rd ?_
    dsimp only
    refine hc5.rd (i := 1) (by omega) rfl rfl ?_
    refine splitW_i (fun h1 => ?_) (fun h1 => ?_)
    · have h1 := bne_iff_ne.1 h1
      have e : loadE size n ps = 4 := by rw [hE, if_neg (by simpa using hf), if_neg (by omega)]
      exact ⟨none, by rw [e], by rw [e, if_neg (by omega)], he5⟩
    have h0 := bne_eq_false_iff_eq.1 h0
    have h1 := bne_eq_false_iff_eq.1 h1
    have e : loadE size n ps = 0 := by rw [hE, if_neg (by simpa using hf), if_pos (by omega)]
    refine ⟨some ⟨b, 0, none⟩, by rw [e], ?_, he5⟩
    rw [e, if_pos rfl]
    exact ⟨b, r, rfl, hc5, by omega, by omega⟩
end Go.Proofs.Ytmogbadaoaikcaa.V
