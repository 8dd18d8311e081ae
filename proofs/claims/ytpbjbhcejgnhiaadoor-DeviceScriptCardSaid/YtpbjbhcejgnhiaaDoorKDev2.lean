/- Contracts of the package device: Read, Image, Pending, Geo. -/
import Derived.Test.YtpbjbhcejgnhiaaDoorKDev
import Derived.Test.YtpbjbhcejgnhiaaDoorHR2
set_option linter.unusedVariables false
set_option linter.unusedSimpArgs false
namespace Go.Proofs.YtpbjbhcejgnhiaaDoor.V
open Go Go.Proofs Go.RowKit Crc

theorem DevAt.ext {w w' : World} {b : Nat} {d : Dev} {F : Nat → Prop} (h : DevAt w b d F) (k : Ext w w') : DevAt w' b d F :=
  h.apart (G := fun _ => False) (Only.of_ext k) (fun _ _ h => h)
abbrev w00 : Int × ByteArray := (0, ByteArray.empty)
def RLat (r1 : Nat) (A : Option Addr) (n c : Nat) (ps : List (Int × ByteArray)) : WP := fun w => Blk w r1 [.slice A n c] 40 ∧ Sli writeE w A n ps
def latV (ps : List (Int × ByteArray)) : List (List Value) := (List.range ps.length).map fun i => [.int .i64 ((ps.length - 1 - i : Nat) : Int), .agg #[.int .i64 (ps.getD (ps.length - 1 - i) w00).1, .string (ps.getD (ps.length - 1 - i) w00).2]]
theorem latV_length (ps : List (Int × ByteArray)) : (latV ps).length = ps.length := by simp [latV]
theorem backwr_calls {w : World} {A : Option Addr} {n c : Nat} {ps : List (Int × ByteArray)} (h : Sli writeE w A n ps) :
    Calls Tryd.prog 60 #[.slice A n c] w (Ret fun v w' => Iter2 Tryd.prog v (latV ps) (RLat w.heap.size A n c ps) ∧ RLat w.heap.size A n c ps w' ∧ w'.heap.size = w.heap.size + 1 ∧ Ext w w') := by
  apply calls60
  unfold S60
  apply newW_i
  have he := (Ext.refl w).alloc (.cells #[.slice A n c] 40)
  refine ⟨⟨_, _, rfl, by kernel_rfl, fun l J E w' hJ hR hd hY => ?_⟩, ⟨Blk.new w #[.slice A n c] 40, h.ext he⟩, by simp, he⟩
  apply calls67
  unfold S67
  rw [latV_length]
  obtain ⟨h1, h2⟩ := hR 0 w' hJ
  have hl := h2.len
  have hle := h2.le
  refine ldW_blk (x := (A, n, c)) h1 (by rfl) ?_
  dsimp only
  rw [wrap_i64 (by omega) (by omega)]
  refine loopW_i (fun y w' => ∃ i : Nat, i ≤ n ∧ y = ((n : Int) - 1 - i, ()) ∧ J i w') (fun y => (y.1 + 1).toNat) ⟨0, by omega, by simp, hJ⟩ ?_
  rintro _ w1 ⟨i, hi, rfl, hJ⟩
  dsimp only
  by_cases hlt : i < n
  · refine splitW_t (decide_eq_true (by omega)) ?_
    obtain ⟨h1, h2⟩ := hR i w1 hJ
    refine ldW_blk (x := (A, n, c)) h1 (by rfl) ?_
    dsimp only
    refine idx_A (ls := [.int .i64, .str]) (fun x : Int × ByteArray => (x.1, x.2, ())) w00 h2 (fun _ => rfl) rfl (by omega) (by omega) ?_
    have hlt' : i < (latV ps).length := by rw [latV_length]; omega
    refine .inr ⟨l, rfl, ?_⟩
    have hy := hY i w1 hlt' hJ
    have el : (latV ps)[i] = [.int .i64 ((n : Int) - 1 - i), .agg #[.int .i64 (ps.getD (Int.toNat ((n : Int) - 1 - i)) w00).1, .string (ps.getD (Int.toNat ((n : Int) - 1 - i)) w00).2]] := by
      have e1 : ((ps.length - 1 - i : Nat) : Int) = (n : Int) - 1 - i := by omega
      have e2 : Int.toNat ((n : Int) - 1 - i) = ps.length - 1 - i := by omega
      rw [e2, ← e1]
      simp [latV]
    rw [el] at hy
    obtain ⟨fn, tmps, asg, bd, hy1, hy2⟩ := hy
    refine ⟨fn, tmps, asg, bd, hy1, RoundIn.mono hy2 ?_⟩
    rintro (v | x | _) w2 hv
    · rcases hv with ⟨rfl, _, hJ2⟩ | ⟨rfl, hE⟩
      · refine ⟨true, rfl, splitW_f (by rfl) ?_⟩
        rw [wrap_i64 (by omega) (by omega)]
        exact ⟨⟨i + 1, by omega, by congr 1; omega, hJ2⟩, by omega⟩
      · exact ⟨false, rfl, splitW_t (by rfl) (.inr hE)⟩
    · exact hv
    · exact hv
  · refine splitW_f (decide_eq_false (by omega)) ?_
    obtain rfl : i = n := by omega
    rw [hl]
    exact .inl hJ
theorem latest_calls {w : World} {b : Nat} {d : Dev} {F : Nat → Prop} (h : DevAt w b d F) :
    Calls Tryd.prog 47 #[.pointer (some ⟨b, 0, none⟩)] w (Ret fun v w' => ∃ A n c, Iter2 Tryd.prog v (latV d.pen) (RLat w.heap.size A n c d.pen) ∧ RLat w.heap.size A n c d.pen w' ∧ w'.heap.size = w.heap.size + 1 ∧ Ext w w') := by
  obtain ⟨Ad, Ap, nd, cd, np, cp, t, hb, hd, hp, hF, h1, h2, h3⟩ := h.mem
  apply calls47
  unfold S47
  refine ptr_i (boxF 3 (Ap, np, cp) hb (by rfl) ?_)
  refine callW_of (backwr_calls hp.sl) ?_
  rintro v w1 hw
  exact ⟨v, rfl, Ap, np, cp, hw⟩
theorem getD_set (l : List ByteArray) (i k : Nat) (x e : ByteArray) : (l.set i x).getD k e = if i = k ∧ k < l.length then x else l.getD k e := by
  rw [List.getD_eq_getElem?_getD, List.getD_eq_getElem?_getD, List.getElem?_set]
  by_cases hik : i = k
  · subst hik
    by_cases hk : i < l.length
    · simp [hk]
    · simp [hk]
  · rw [if_neg hik, if_neg (fun h => hik h.1)]
theorem puts_skip {k : Int} (hk : 0 ≤ k) {e : ByteArray} : ∀ (l : List (Int × ByteArray)) (dur : List ByteArray), (∀ p ∈ l, 0 ≤ p.1) → (∀ p ∈ l, p.1 ≠ k) → (l.foldl Go.Proofs.YtpbjbhcejgnhiaaDoor.V.put dur).getD k.toNat e = dur.getD k.toNat e
  | [], _, _, _ => rfl
  | p :: r, dur, h0, h => by
    rw [List.foldl_cons, puts_skip hk r _ (fun q hq => h0 q (List.mem_cons_of_mem _ hq)) (fun q hq => h q (List.mem_cons_of_mem _ hq))]
    have h1 := h0 p List.mem_cons_self
    have h2 := h p List.mem_cons_self
    unfold Go.Proofs.YtpbjbhcejgnhiaaDoor.V.put
    rw [getD_set, if_neg (by omega)]
theorem puts_last {k : Int} (hk : 0 ≤ k) {e : ByteArray} {l : List (Int × ByteArray)} {dur : List ByteArray} {j : Nat} (h0 : ∀ p ∈ l, 0 ≤ p.1) (hj : j < l.length) (hkl : k.toNat < dur.length) (he : (l.getD j w00).1 = k) (hno : ∀ i, j < i → i < l.length → (l.getD i w00).1 ≠ k) :
    (l.foldl Go.Proofs.YtpbjbhcejgnhiaaDoor.V.put dur).getD k.toNat e = (l.getD j w00).2 := by
  have e1 : l = l.take j ++ l.getD j w00 :: l.drop (j + 1) := by
    rw [List.getD_eq_getElem?_getD, List.getElem?_eq_getElem hj, Option.getD_some, ← List.drop_eq_getElem_cons hj, List.take_append_drop]
  generalize hq : l.getD j w00 = q at e1 he ⊢
  have hd : ∀ p ∈ l.drop (j + 1), p.1 ≠ k := by
    intro p hp
    obtain ⟨i, hi, rfl⟩ := List.mem_iff_getElem.1 hp
    rw [List.length_drop] at hi
    have := hno (j + 1 + i) (by omega) (by omega)
    rw [List.getD_eq_getElem?_getD, List.getElem?_eq_getElem (by omega), Option.getD_some] at this
    simpa using this
  rw [e1, List.foldl_append, List.foldl_cons, puts_skip hk _ _ (fun p hp => h0 p (List.mem_of_mem_drop hp)) hd]
  unfold Go.Proofs.YtpbjbhcejgnhiaaDoor.V.put
  have hl := puts_len (l.take j) dur
  unfold Go.Proofs.YtpbjbhcejgnhiaaDoor.V.put at hl
  rw [getD_set, he, if_pos ⟨rfl, by rw [hl]; exact hkl⟩]
theorem read_calls {w : World} {b : Nat} {d : Dev} {F : Nat → Prop} (h : DevAt w b d F) (k : Int) :
    Calls Tryd.prog 19 #[.pointer (some ⟨b, 0, none⟩), .int .i64 k] w (Ret fun v w' => v = .tuple #[.string (d.read k).1, .int .i64 (d.read k).2] ∧ Ext w w') := by
  apply calls19
  unfold S19 Dev.read
  refine new_i fun r1 w1 hb1 he1 hr1 hz1 => ?_
  refine new_i fun r2 w2 hb2 he2 hr2 hz2 => ?_
  refine new_i fun r3 w3 hb3 he3 hr3 hz3 => ?_
  have hb1 := (hb1.ext he2).ext he3
  have hb2 := hb2.ext he3
  have he := (he1.trans he2).trans he3
  refine splitW_f (by rfl) ?_
  refine ldW_blk (x := k) hb1 (by rfl) ?_
  have hD := h.ext he
  refine callW_of (there_calls hD k) ?_
  rintro _ w4 ⟨rfl, hw⟩
  refine ⟨_, rfl, ?_⟩
  obtain rfl : w3 = w4 := hw.symm
  refine splitW_i (fun hz => ?_) (fun hz => ?_)
  · have hz : ¬ (0 ≤ k ∧ k < d.blocks) := of_decide_eq_false (show d.there k = false by simpa using hz)
    rw [if_pos hz]
    refine stW_blk hb2 (by show 0 < 1; omega) ?_
    have hb3' := hb3.other (p := ⟨r2, 0, none⟩) (by show r2 ≠ r3; omega) (.string (ByteArray.mk #[]))
    refine stW_blk hb3' (by show 0 < 1; omega) ?_
    have hb2' := (hb2.set 0 (.string (ByteArray.mk #[]))).other (p := ⟨r3, 0, none⟩) (by show r3 ≠ r2; omega) (.int .i64 2)
    have hb3'' := hb3'.set 0 (.int .i64 2)
    refine ldW_blk (x := ByteArray.mk #[]) hb2' (by rfl) (ldW_blk (x := (2 : Int)) hb3'' (by rfl) ?_)
    exact ⟨rfl, (he.set (by show w.heap.size ≤ r2; omega) _).set (by show w.heap.size ≤ r3; omega) _⟩
  have hth : 0 ≤ k ∧ k < d.blocks := of_decide_eq_true (show d.there k = true by simpa using hz)
  rw [if_neg (fun x => x hth)]
  have hok := h.ok
  have hlen := hok.len
  have h0 : ∀ p ∈ d.pen, 0 ≤ p.1 := fun p hp => (hok.pend p hp).1
  refine callW_of (latest_calls hD) ?_
  rintro v w4 ⟨A, n, c, hit, hRL, hs4, he4⟩
  refine ⟨v, rfl, ?_⟩
  have hr4 := hRL.1.lt
  let G : World → Prop := fun w' => Ext w w' ∧ Blk w' r1 [.int .i64 k] 3 ∧ RLat w3.heap.size A n c d.pen w' ∧ w4.heap.size ≤ w'.heap.size
  have hG4 : G w4 := ⟨he.trans he4, hb1.ext he4, hRL, Nat.le_refl _⟩
  have hGext : ∀ {w' w'' : World}, G w' → Ext w' w'' → G w'' := fun hg hx => ⟨hg.1.trans hx, hg.2.1.ext hx, ⟨hg.2.2.1.1.ext hx, hg.2.2.1.2.ext hx⟩, Nat.le_trans hg.2.2.2 hx.size⟩
  have hsame : ∀ {w' w'' : World}, SameBut w4.heap.size (w4.heap.size + 1) w' w'' → G w' → G w'' := fun hs hg => by
    have hx := hs.ext hg.1 (by have := he4.size; omega)
    obtain ⟨g1, g2, g3, g4⟩ := hg
    refine ⟨hx, hs.blk g2 (by omega), ⟨hs.blk g3.1 (by omega), ?_⟩, by rw [hs.size]; exact g4⟩
    obtain ⟨s1, s2, s3⟩ := g3.2
    obtain ⟨t1, t2, t3⟩ := hRL.2
    refine ⟨s1, s2, fun hn => ?_⟩
    obtain ⟨a, e1, e2, e3⟩ := t3 hn
    refine ⟨a, e1, e2, fun j v hj => ?_⟩
    have hc := e3 j v hj
    have hab : (a.add j).block = a.block := by unfold Addr.add; split <;> rfl
    have hlt := World.block_lt_of_cell? w4 _ hc
    obtain ⟨a', e1', e2', e3'⟩ := s3 hn
    obtain rfl : a' = a := by rw [e1] at e1'; exact (Option.some.inj e1').symm
    have hc' := e3' j v hj
    unfold World.cell? at hc' ⊢
    rw [hs.2.2.2.2 _ (by omega) (by omega)]
    exact hc'
  have hp0 : ∀ j, j < d.pen.length → d.pen[j]? = some (d.pen.getD j w00) := fun j hj => by rw [List.getD_eq_getElem?_getD, List.getElem?_eq_getElem hj]; rfl
  refine rangeT_i (fun i w' => G w' ∧ Blk w' r2 [.string ByteArray.empty] 9 ∧ Blk w' r3 [.int .i64 0] 27 ∧ ∀ j, d.pen.length - i ≤ j → j < d.pen.length → (d.pen.getD j w00).1 ≠ k)
    (fun c w' => c = .ret ∧ Ext w w' ∧ ∃ s, Blk w' r2 [.string s] 9 ∧ Blk w' r3 [.int .i64 0] 27 ∧ s = (d.pen.foldl Go.Proofs.YtpbjbhcejgnhiaaDoor.V.put d.dur).getD k.toNat ByteArray.empty)
    (fun i => (((d.pen.length - 1 - i : Nat) : Int), ((d.pen.getD (d.pen.length - 1 - i) w00).1, (d.pen.getD (d.pen.length - 1 - i) w00).2, ()), ())) ?_ hit ?_ ?_ ?_ ?_ ?_ ?_ ?_ ?_ ?_ ?_ ?_
  · intro i hi
    simp [latV]
  · intro i w' hI
    exact hI.1.2.2.1
  · intro i w' hI
    exact ⟨hGext hI.1 ((Ext.refl _).drew), hI.2.1, hI.2.2.1, hI.2.2.2⟩
  · intro i w' w'' hs hI
    exact ⟨hsame hs hI.1, hs.blk hI.2.1 (by omega), hs.blk hI.2.2.1 (by omega), hI.2.2.2⟩
  · intro i w' w'' hs hR
    refine ⟨hs.blk hR.1 (by omega), ?_⟩
    obtain ⟨s1, s2, s3⟩ := hR.2
    obtain ⟨t1, t2, t3⟩ := hRL.2
    refine ⟨s1, s2, fun hn => ?_⟩
    obtain ⟨a, e1, e2, e3⟩ := t3 hn
    refine ⟨a, e1, e2, fun j v hj => ?_⟩
    have hc := e3 j v hj
    have hlt := World.block_lt_of_cell? w4 _ hc
    obtain ⟨a', e1', e2', e3'⟩ := s3 hn
    obtain rfl : a' = a := by rw [e1] at e1'; exact (Option.some.inj e1').symm
    have hc' := e3' j v hj
    unfold World.cell? at hc' ⊢
    rw [hs.2.2.2.2 _ (by omega) (by omega)]
    exact hc'
  · rintro c w' w'' hs ⟨rfl, hx, s, g1, g2, g3⟩
    exact ⟨rfl, hs.ext hx (by have := he4.size; have := he.size; omega), s, hs.blk g1 (by omega), hs.blk g2 (by omega), g3⟩
  · intro i w' w'' hs
    exact hs
  · intro i w' k hk
    rfl
  · intro o
    have hx : Ext w4 ((w4.alloc (.deferred (some []))).alloc o) := ((Ext.refl w4).alloc _).alloc _
    exact ⟨hGext hG4 hx, (hb2.ext he4).ext hx, (hb3.ext he4).ext hx, fun j hj hj2 => by omega⟩
  · intro i hi w' G' N jump hI hsz hG'
    rw [latV_length] at hi
    obtain ⟨hI1, hI2, hI3, hI4⟩ := hI
    dsimp only
    refine box_i (vs := writeE.f (d.pen.getD (d.pen.length - 1 - i) w00)) (by rfl) (writeE.one _) ?_ (by rfl)
    intro r17 w5 hb17 he5 hr17
    have hk5 : ∀ k : Nat, k = w4.heap.size ∨ k = w4.heap.size + 1 → w5.heap[k]? = w'.heap[k]? := fun k hk => he5.block k (by omega)
    refine hG' _ w5 ⟨hGext hI1 he5, hI2.ext he5, hI3.ext he5, hI4⟩ he5.size hk5 ?_
    intro w6 hI6 hsz6 hk6 hN hJ
    obtain ⟨hI1, hI2, hI3, hI4⟩ := hI6
    have hb17 := hb17.at_ (hk6 r17 (by omega) (by omega))
    have hb17lt := hb17.lt
    refine ldW_blk (x := (d.pen.getD (d.pen.length - 1 - i) w00).1) hb17 (by rfl) ?_
    refine ldW_blk (x := k) hI1.2.1 (by rfl) ?_
    refine splitW_i (fun hz => ?_) (fun hz => ?_)
    · have hz := beq_iff_eq.1 hz
      refine boxF 1 (d.pen.getD (d.pen.length - 1 - i) w00).2 hb17 (by rfl) ?_
      refine stW_blk hI2 (by show 0 < 1; omega) ?_
      have hb3' := hI3.other (p := ⟨r2, 0, none⟩) (by show r2 ≠ r3; omega) (.string (d.pen.getD (d.pen.length - 1 - i) w00).2)
      refine stW_blk hb3' (by show 0 < 1; omega) ?_
      have hb2' := (hI2.set 0 (.string (d.pen.getD (d.pen.length - 1 - i) w00).2)).other (p := ⟨r3, 0, none⟩) (by show r3 ≠ r2; omega) (.int .i64 0)
      have hb3'' := hb3'.set 0 (.int .i64 0)
      refine hJ .ret _ ⟨rfl, (hI1.1.set (by show w.heap.size ≤ r2; omega) _).set (by show w.heap.size ≤ r3; omega) _, _, hb2', hb3'', ?_⟩ (by simp) (fun k hk => ?_)
      · refine (puts_last hth.1 h0 (by omega) (by omega) hz (fun j hj hj2 => hI4 j (by omega) hj2)).symm
      · rw [Below.heap_setCell _ _ _ _ (by show k ≠ r3; omega), Below.heap_setCell _ _ _ _ (by show k ≠ r2; omega)]
    · have hz := beq_eq_false_iff_ne.1 hz
      refine hN w6 ⟨hI1.2.2.1, hI1, hI2, hI3, fun j hj hj2 => ?_⟩ (Nat.le_refl _) (fun _ _ => rfl)
      by_cases hjj : j = d.pen.length - 1 - i
      · rw [hjj]; exact hz
      · exact hI4 j (by omega) hj2
  · rintro w' ⟨hI1, hI2, hI3, hI4⟩ hsz hdf
    rw [latV_length] at hI4
    rw [jumpK]
    refine draw_i fun w5 he5 hs5 hk5 => ?_
    have hx : Ext w w5 := hI1.1.trans he5
    obtain ⟨Ad, Ap, nd, cd, np, cp, t, hb, hd, hp, hF, g1, g2, g3⟩ := (h.ext hx).mem
    have hdl := hd.len
    refine ptr_i (boxF 2 (Ad, nd, cd) hb (by rfl) (ldW_blk (x := k) (hI1.2.1.ext he5) (by rfl) ?_))
    dsimp only
    refine idx_str hd.sl hth.1 (by omega) ?_
    have hI2 := hI2.ext he5
    have hI3 := hI3.ext he5
    refine stW_blk hI2 (by show 0 < 1; omega) ?_
    have hb3' := hI3.other (p := ⟨r2, 0, none⟩) (by show r2 ≠ r3; omega) (.string (d.dur.getD k.toNat ByteArray.empty))
    refine stW_blk hb3' (by show 0 < 1; omega) ?_
    have hb2' := (hI2.set 0 (.string (d.dur.getD k.toNat ByteArray.empty))).other (p := ⟨r3, 0, none⟩) (by show r3 ≠ r2; omega) (.int .i64 0)
    have hb3'' := hb3'.set 0 (.int .i64 0)
    have hx2 := (hx.set (p := ⟨r2, 0, none⟩) (by show w.heap.size ≤ r2; omega) (.string (d.dur.getD k.toNat ByteArray.empty))).set (p := ⟨r3, 0, none⟩) (by show w.heap.size ≤ r3; omega) (.int .i64 0)
    refine leave_i ?_ ?_
    · rw [Below.heap_setCell _ _ _ _ (by show w4.heap.size ≠ r3; omega), Below.heap_setCell _ _ _ _ (by show w4.heap.size ≠ r2; omega), hk5]
      exact hdf
    have hsb := sameBut_setO (a := w4.heap.size) (b := w4.heap.size + 1) (w := (w5.setCell ⟨r2, 0, none⟩ (.string (d.dur.getD k.toNat ByteArray.empty))).setCell ⟨r3, 0, none⟩ (.int .i64 0)) (o := .deferred none) (.inl rfl)
    refine ldW_blk (x := d.dur.getD k.toNat ByteArray.empty) (hsb.blk hb2' (by omega)) (by rfl) (ldW_blk (x := (0 : Int)) (hsb.blk hb3'' (by omega)) (by rfl) ?_)
    refine ⟨?_, hsb.ext hx2 (by have := he4.size; have := he.size; omega)⟩
    rw [puts_skip hth.1 _ _ h0 (fun p hp => ?_)]
    obtain ⟨j, hj, rfl⟩ := List.mem_iff_getElem.1 hp
    have := hI4 j (by omega) hj
    rw [List.getD_eq_getElem?_getD, List.getElem?_eq_getElem hj] at this
    exact this
  · rintro c' w' ⟨rfl, hx, s, hb2', hb3', rfl⟩ hsz hdf
    rw [jumpK]
    refine leave_i hdf ?_
    have hsb := sameBut_setO (a := w4.heap.size) (b := w4.heap.size + 1) (w := w') (o := .deferred none) (.inl rfl)
    refine ldW_blk (x := (d.pen.foldl Go.Proofs.YtpbjbhcejgnhiaaDoor.V.put d.dur).getD k.toNat ByteArray.empty) (hsb.blk hb2' (by omega)) (by rfl) (ldW_blk (x := (0 : Int)) (hsb.blk hb3' (by omega)) (by rfl) ?_)
    exact ⟨rfl, hsb.ext hx (by have := he4.size; have := he.size; omega)⟩
end Go.Proofs.YtpbjbhcejgnhiaaDoor.V
