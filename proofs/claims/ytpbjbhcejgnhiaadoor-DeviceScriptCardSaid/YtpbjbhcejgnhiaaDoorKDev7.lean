/- Contracts of the package device: Crash. -/
import Derived.Test.YtpbjbhcejgnhiaaDoorKDev6
set_option linter.unusedVariables false
set_option linter.unusedSimpArgs false
namespace Go.Proofs.YtpbjbhcejgnhiaaDoor.V
open Go Go.Proofs Go.RowKit Crc

/-- Sectors out of the one, or the other. -/
def mixS (old new : List UInt8) (p : Nat → Bool) : List UInt8 := (List.range old.length).map fun i => if p (i / 64) then new.getD i 0 else old.getD i 0
theorem mixS_length (old new : List UInt8) (p : Nat → Bool) : (mixS old new p).length = old.length := by simp [mixS]
theorem mixS_get {old new : List UInt8} {p : Nat → Bool} {i : Nat} (h : i < old.length) : (mixS old new p)[i]? = some (if p (i / 64) then new.getD i 0 else old.getD i 0) := by
  unfold mixS
  rw [List.getElem?_map, List.getElem?_range h]
  rfl
theorem mixS_none {old new : List UInt8} {p : Nat → Bool} (h : ∀ j, j * 64 < old.length → p j = false) : mixS old new p = old := by
  apply List.ext_getElem?
  intro i
  by_cases hi : i < old.length
  · rw [mixS_get hi, h _ (by omega)]
    simp [hi]
  · rw [List.getElem?_eq_none (by rw [mixS_length]; omega), List.getElem?_eq_none (by omega)]
theorem mixS_congr {old new : List UInt8} {p q : Nat → Bool} (h : ∀ j, j * 64 < old.length → p j = q j) : mixS old new p = mixS old new q := by
  unfold mixS
  apply List.map_congr_left
  intro i hi
  rw [h (i / 64) (by have := List.mem_range.1 hi; omega)]
theorem mix_copy {old new : List UInt8} {p : Nat → Bool} {k : Nat} (hn : new.length = old.length) (hk : k * 64 + 64 ≤ old.length) :
    (mixS old new p).take (k * 64) ++ (new.drop (k * 64)).take 64 ++ (mixS old new p).drop (k * 64 + 64) = mixS old new (fun j => p j || decide (j = k)) := by
  have hl := mixS_length old new p
  apply List.ext_getElem?
  intro i
  by_cases h1 : i < old.length
  · rw [mixS_get h1]
    by_cases h2 : i < k * 64
    · rw [List.append_assoc, List.getElem?_append_left (by rw [List.length_take]; omega), List.getElem?_take, if_pos h2, mixS_get h1, decide_eq_false (by omega), Bool.or_false]
    · by_cases h3 : i < k * 64 + 64
      · rw [List.append_assoc, List.getElem?_append_right (by rw [List.length_take]; omega), List.length_take, List.getElem?_append_left (by simp; omega), List.getElem?_take, if_pos (by omega), List.getElem?_drop, show k * 64 + (i - min (k * 64) (mixS old new p).length) = i by omega,
          decide_eq_true (by omega), Bool.or_true, if_pos rfl, List.getD_eq_getElem?_getD, List.getElem?_eq_getElem (by omega)]
        rfl
      · rw [List.getElem?_append_right (by simp; omega), List.getElem?_drop, show k * 64 + 64 + (i - ((mixS old new p).take (k * 64) ++ (new.drop (k * 64)).take 64).length) = i by simp; omega, mixS_get h1, decide_eq_false (by omega), Bool.or_false]
  · rw [List.getElem?_eq_none (by simp; omega), List.getElem?_eq_none (by rw [mixS_length]; omega)]
def pickE : Enc (Int × Nat) where
  k := 2
  f x := [.int .i64 x.1, .int .u64 (x.2 : Int)]
  len _ := rfl
  one _ := by
    intro v hv
    simp only [List.mem_cons, List.not_mem_nil, or_false] at hv
    rcases hv with rfl | rfl <;> rfl
  pos := by decide
def Dev.secs (d : Dev) : Nat := d.size.toNat / 64
def Dev.pick1 (d : Dev) (p : Int × Nat) : Prop := 0 ≤ p.1 ∧ p.1 < (d.pen.length : Int) ∧ p.2 / 2 ^ d.secs = 0
def Dev.pickOK (d : Dev) (l : List (Int × Nat)) : Prop := (∀ p ∈ l, d.pick1 p) ∧ (l.map (·.1)).Nodup
def applyP (pen : List (Int × ByteArray)) (dur : List ByteArray) (p : Int × Nat) : List ByteArray :=
  dur.set (pen.getD p.1.toNat w00).1.toNat (mkB (mixS (B (dur.getD (pen.getD p.1.toNat w00).1.toNat ByteArray.empty)) (B (pen.getD p.1.toNat w00).2) p.2.testBit))
def Dev.crashed (d : Dev) (l : List (Int × Nat)) : Dev := ⟨d.size, d.blocks, l.foldl (applyP d.pen) d.dur, [], 0, -1⟩
theorem apply_len (pen : List (Int × ByteArray)) : ∀ (l : List (Int × Nat)) (dur : List ByteArray), (l.foldl (applyP pen) dur).length = dur.length
  | [], _ => rfl
  | p :: r, dur => by rw [List.foldl_cons, apply_len pen r]; simp [applyP]
theorem apply_each {n : Int} (pen : List (Int × ByteArray)) : ∀ (l : List (Int × Nat)) (dur : List ByteArray), (∀ s ∈ dur, (s.size : Int) = n) → ∀ s ∈ l.foldl (applyP pen) dur, (s.size : Int) = n
  | [], _, h => h
  | p :: r, dur, h => by
    rw [List.foldl_cons]
    refine apply_each pen r _ (fun s hs => ?_)
    unfold applyP at hs
    generalize (pen.getD p.1.toNat w00).1.toNat = i at hs
    by_cases hi : i < dur.length
    · rcases List.mem_or_eq_of_mem_set hs with hs | rfl
      · exact h s hs
      · rw [mkB_size, mixS_length, ← B_size]
        apply h
        rw [List.getD_eq_getElem?_getD, List.getElem?_eq_getElem hi]
        exact List.getElem_mem _
    · rw [List.set_eq_of_length_le (by omega)] at hs
      exact h s hs
theorem Dev.Ok.crashed {d : Dev} (h : d.Ok) (l : List (Int × Nat)) : (d.crashed l).Ok := by
  refine ⟨h.geo, ?_, apply_each _ _ _ h.each, (fun p hp => by cases hp), (by show (-1 : Int) ≤ -1; omega), (by show (-1 : Int) < 9223372036854775808; omega)⟩
  show (((l.foldl (applyP d.pen) d.dur).length : Nat) : Int) = d.blocks
  rw [apply_len]
  exact h.len
theorem take_snoc {α : Type} {l : List α} {i : Nat} {p : α} (h : l[i]? = some p) : l.take (i + 1) = l.take i ++ [p] := by
  rw [List.take_add_one, h]
  rfl
theorem Only.same {F : Nat → Prop} {a : Nat} {w0 w w' : World} (h : Only F w0 w) (hs : SameBut a (a + 1) w w') (ha : w0.heap.size ≤ a) : Only F w0 w' := by
  obtain ⟨h1, h2, h3, h4, h5⟩ := h
  obtain ⟨s1, s2, s3, s4, s5⟩ := hs
  exact ⟨s1.trans h1, s2.trans h2, s3.trans h3, by omega, fun k hk hF => (s5 k (by omega) (by omega)).trans (h5 k hk hF)⟩
theorem BlkB.same {a b : Nat} {w w' : World} {cs : List Value} {t : TypeId} (h : BlkB w b cs t) (hs : SameBut a (a + 1) w w') (hb : b < a) : BlkB w' b cs t := (hs.2.2.2.2 b (by omega) (by omega)).trans h
theorem Owni.sameDf {α : Type} {E : Enc α} {e : TypeId} {Bd : Nat} {w w' : World} {B : Nat} {A : Option Addr} {n c : Nat} {xs : List α} (h : Owni E e w B A n c xs) (hs : SameDf Bd w w') : Owni E e w' B A n c xs := by
  refine ⟨h.1, ?_⟩
  rcases h.2 with hn | ⟨g, cap, cur, hv, hb, hgg, rest⟩
  · exact .inl hn
  · exact .inr ⟨g, cap, cur, hv, hb, (hs.2.2.2.2 g (.inr (by rw [hgg]; simp))).trans hgg, rest⟩
theorem DeB.only {F : Nat → Prop} {w w' : World} (h : DeB w) (k : Only F w w') (h0 : ¬ F 0) : DeB w' := fun j hj => by
  have hc := h j hj
  have hlt := World.block_lt_of_cell? w _ hc
  have := k.2.2.2.2 0 hlt h0
  unfold World.cell? at hc ⊢
  rw [this]
  exact hc
theorem Ext.only' {F : Nat → Prop} {a w w' : World} (h : Ext a w) (k : Only F w w') (hF : ∀ j, F j → a.heap.size ≤ j) : Ext a w' := Only.ext h k hF
theorem DeB.pos {w : World} (h : DeB w) : 0 < w.heap.size := World.block_lt_of_cell? w _ (h 0 (by omega))
theorem Only.grow {F : Nat → Prop} {w0 w w' : World} {row : Option Nat} (h : Only F w0 w) (hg : w.grownBy w' row) (hr : ∀ j, row = some j → F j ∨ w0.heap.size ≤ j) : Only F w0 w' :=
  Only.trans h (Only.of_grown (F := fun j => row = some j) hg (fun j hj => .inl hj)) (fun j hj => hr j hj)
theorem Dfs.ge {B : Nat} {w : World} : ∀ {ds : List Deferred}, Dfs B w ds → ∀ d ∈ ds, ∀ r, d.target = .collected r → B ≤ r
  | [], _, d, hd, _, _ => by cases hd
  | d0 :: ds, ⟨r0, h1, hB, h2, _, h4⟩, d, hd, r, hr => by
    rcases List.mem_cons.1 hd with rfl | hd
    · subst h1
      injection hr with hr
      subst hr
      exact hB
    · exact Dfs.ge h4 d hd r hr
theorem secM_bit {m j : Nat} : ∀ i, (secM i m).testBit j = true → m.testBit j = true
  | 0, h => h
  | i + 1, h => by
    rw [secM_succ, Nat.testBit_and, Bool.and_eq_true] at h
    exact secM_bit i h.1
theorem mixB {M X : List UInt8} {rest : List Value} {o : Nat} (h : o + 64 ≤ M.length) : (bV M ++ rest).take o ++ bV X ++ (bV M ++ rest).drop (o + 64) = bV (M.take o ++ X ++ M.drop (o + 64)) ++ rest := by
  rw [List.take_append_of_le_length (by rw [length_bV]; omega), List.drop_append_of_le_length (by rw [length_bV]; omega), bV_take, bV_drop, bV_append, bV_append]
  simp
theorem BlkB.other {w : World} {b : Nat} {cs : List Value} {t : TypeId} (h : BlkB w b cs t) {p : Addr} (hp : p.block ≠ b) (v : Value) : BlkB (w.setCell p v) b cs t := by
  show (w.setCell p v).heap[b]? = _
  rw [Below.heap_setCell _ _ _ _ (Ne.symm hp)]
  exact h
theorem BlkB.grown {w w' : World} {b : Nat} {cs : List Value} {t : TypeId} {row : Option Nat} (h : BlkB w b cs t) (hg : w.grownBy w' row) (hr : some b ≠ row) : BlkB w' b cs t :=
  (hg.block b h.lt hr).trans h
/-- Which sectors are done. -/
def doneS (m i : Nat) (j : Nat) : Bool := m.testBit j && !(secM i m).testBit j
theorem doneS_zero (m : Nat) : doneS m 0 = fun _ => false := by funext j; simp [doneS, secM]
theorem doneS_end (m : Nat) : doneS m (secL m).length = m.testBit := by funext j; simp [doneS, sec_end]
theorem doneS_succ {m i : Nat} (hm : m < 18446744073709551616) (hi : i < (secL m).length) : (fun j => doneS m i j || decide (j = ctz (secM i m))) = doneS m (i + 1) := by
  funext j
  obtain ⟨_, hne⟩ := sec_get m i hi
  have hle := secM_le i m
  unfold doneS
  rw [secM_succ, low_bit hne (by omega)]
  by_cases hj : j = ctz (secM i m)
  · have h1 := ctz_bit hne (by omega : secM i m < 18446744073709551616)
    rw [← hj] at h1
    have h2 := secM_bit i h1
    simp [hj.symm, h1, h2]
  · simp [hj]
theorem zero_unit (w : World) : (zeroValue 79).run Tryd.prog w = .ok (.agg #[]) w := Tryd.zeroValue79 w
theorem crash_calls {w : World} {b : Nat} {d : Dev} {F : Nat → Prop} (h : DevAt w b d F) {A : Option Addr} {n c : Nat} {l : List (Int × Nat)} (hl : Sli pickE w A n l) (hlm : ∀ p ∈ l, p.2 < 18446744073709551616) (hn : n ≤ 1000000) (hpen : d.pen.length ≤ 1000000) (hT : DeB w) :
    Calls Tryd.prog 17 #[.pointer (some ⟨b, 0, none⟩), .slice A n c] w (Ret fun v w' => (d.pickOK l ∧ ∃ b', v = .tuple #[.pointer (some ⟨b', 0, none⟩), .int .i64 0] ∧ DevNew w (d.crashed l) b' w') ∨ (¬ d.pickOK l ∧ v = .tuple #[.pointer none, .int .i64 2] ∧ Ext w w')) := by
  obtain ⟨Ad, Ap, nd, cd, np, cp, t, hb, hd, hp, hF, h1, h2, h3⟩ := h.mem
  have hdim := h.ok.dims
  have hok := h.ok
  have hdl := hd.len
  have hpl := hp.len
  have hll := hl.len
  have hsec : IntKind.wrap .i64 (Int.tdiv d.size 64) = (d.secs : Int) := by
    unfold Dev.secs
    rw [Int.tdiv_eq_ediv_of_nonneg (by omega), wrap_i64 (by omega) (by omega)]
    omega
  have hs64 : d.secs ≤ 64 := by unfold Dev.secs; omega
  have hssz : d.size.toNat = d.secs * 64 := by unfold Dev.secs; omega
  apply calls17
  unfold S17
  refine splitW_f (by rfl) (makeMap_i fun w1 hm1 he1 hz1 => ?_)
  generalize hrm : w.heap.size = rm at hm1
  refine loopW_i (fun y w' => ∃ i : Nat, i ≤ n ∧ y = (none, 0, (i : Int), ()) ∧ Ext w w' ∧ SetAt w' rm ((l.take i).map (·.1)) ∧ (∀ p ∈ l.take i, d.pick1 p) ∧ ((l.take i).map (·.1)).Nodup) (fun y => (n - y.2.2.1).toNat) ⟨0, by omega, rfl, he1, hm1, (fun p hp => by cases hp), List.nodup_nil⟩ ?_
  rintro _ w2 ⟨i, hi, rfl, he2, hm2, hall, hnd⟩
  dsimp only
  by_cases hlt : i < n
  · refine splitW_t (decide_eq_true (by omega)) ?_
    refine idx_A (ls := [.int .i64, .int .u64]) (fun x : Int × Nat => (x.1, (x.2 : Int), ())) (0, 0) (hl.ext he2) (fun _ => rfl) rfl (by omega) (by omega) ?_
    rw [Int.toNat_natCast]
    have e : l[i]? = some (l.getD i (0, 0)) := by rw [List.getD_eq_getElem?_getD, List.getElem?_eq_getElem (by omega)]; rfl
    have hmem := List.mem_of_getElem? e
    generalize l.getD i (0, 0) = p at e hmem ⊢
    have hp64 := hlm p hmem
    have bad : ∀ w', Ext w w' → ¬ (d.pick1 p ∧ p.1 ∉ (l.take i).map (·.1)) → (d.pickOK l ∧ ∃ b', Value.tuple #[.pointer none, .int .i64 2] = .tuple #[.pointer (some ⟨b', 0, none⟩), .int .i64 0] ∧ DevNew w (d.crashed l) b' w') ∨ (¬ d.pickOK l ∧ Value.tuple #[.pointer none, .int .i64 2] = .tuple #[.pointer none, .int .i64 2] ∧ Ext w w') := fun w' he hno => by
      refine .inr ⟨fun hk => hno ⟨hk.1 p hmem, fun hin => ?_⟩, rfl, he⟩
      have h5 := hk.2
      rw [← List.take_append_drop (i + 1) l, take_snoc e, List.map_append, List.map_append] at h5
      have h6 := (List.nodup_append.1 h5).1
      have h7 := (List.nodup_append.1 h6).2.2 _ hin p.1 (by simp)
      exact h7 rfl
    refine box_i (vs := pickE.f p) (by rfl) (pickE.one p) ?_ (by rfl)
    intro r6 w3 hb6 he3 hr6
    have hx3 := he2.trans he3
    refine ptr_i (box0 d.size (hb.ext hx3) (by rfl) (box0 p.1 hb6 (by rfl) ?_))
    refine lookup_i (kt := 3) (et := 79) (by kernel_rfl) (by kernel_rfl) (zero_unit w3) (hm2.ext he3) ?_
    refine box_i (vs := []) (by rfl) (fun v hv => by cases hv) ?_ (by rfl)
    intro r11 w4 hb11 he4 hr11
    refine draw_i fun w5 he5 _ _ => ?_
    have hx5 := (hx3.trans he4).trans he5
    have hb6 := (hb6.ext he4).ext he5
    have hm5 := ((hm2.ext he3).ext he4).ext he5
    refine box0 p.1 hb6 (by rfl) ?_
    refine splitW_i (fun hz => bad _ hx5 (fun x => by have := of_decide_eq_true hz; have := x.1.1; omega)) (fun hz1 => ?_)
    have hz1 := of_decide_eq_false hz1
    refine box0 p.1 hb6 (by rfl) (ptr_i (boxF 3 (Ap, np, cp) (hb.ext hx5) (by rfl) ?_))
    dsimp only
    refine splitW_i (fun hz => bad _ hx5 (fun x => by have := of_decide_eq_true hz; have := x.1.2.1; omega)) (fun hz2 => ?_)
    have hz2 := of_decide_eq_false hz2
    refine splitW_i (fun hz => bad _ hx5 (fun x => x.2 (of_decide_eq_true hz))) (fun hz3 => ?_)
    have hz3 := of_decide_eq_false hz3
    rw [hsec]
    have next : d.pick1 p → ∀ w6, Ext w w6 → SetAt w6 rm ((l.take i).map (·.1) ++ [p.1]) → (∃ j : Nat, j ≤ n ∧ ((none : Option Addr), (0 : Int), IntKind.wrap .i64 ((i : Int) + 1), ()) = (none, 0, (j : Int), ()) ∧ Ext w w6 ∧ SetAt w6 rm ((l.take j).map (·.1)) ∧ (∀ p ∈ l.take j, d.pick1 p) ∧ ((l.take j).map (·.1)).Nodup) ∧ (n - IntKind.wrap .i64 ((i : Int) + 1)).toNat < ((n : Int) - (i : Int)).toNat := by
      intro hp1 w6 he6 hm6
      refine ⟨⟨i + 1, hlt, by rw [wrap_i64 (by omega) (by omega)]; rfl, he6, ?_, ?_, ?_⟩, by rw [wrap_i64 (by omega) (by omega)]; omega⟩
      · rw [take_snoc e, List.map_append]; exact hm6
      · intro q hq
        rw [take_snoc e] at hq
        rcases List.mem_append.1 hq with hq | hq
        · exact hall q hq
        · rw [List.mem_singleton.1 hq]; exact hp1
      · rw [take_snoc e, List.map_append]
        refine List.nodup_append.2 ⟨hnd, by simp, fun a ha b hb e => hz3 ?_⟩
        rw [List.map_singleton, List.mem_singleton] at hb
        rw [← hb, ← e]; exact ha
    have upd : d.pick1 p → ∀ (K : WP), (∀ w6, Ext w w6 → SetAt w6 rm ((l.take i).map (·.1) ++ [p.1]) → K w6) → runUW Tryd.prog (Instr.mapUpdate 78 (.map (some rm)) (.int .i64 p.1) (.agg #[])) K w5 := by
      intro hp1 K hK
      refine mapUpdate_i (kt := 3) (et := 79) (by kernel_rfl) (by kernel_rfl) hm5 hz3 fun w6 hm6 hg6 => hK w6 (hx5.grown hg6 (fun j hj => by injection hj with hj; omega)) hm6
    by_cases hs : d.secs < 64
    · refine splitW_t (decide_eq_true (by omega)) ?_
      refine boxF 1 (p.2 : Int) hb6 (by rfl) (guard_i (by omega) ?_)
      rw [ishr_nat .u64 _ _ (show d.secs ≤ 64 by omega)]
      refine splitW_i (fun hz => bad _ hx5 (fun x => by have := bne_iff_ne.1 hz; have := x.1.2.2; omega)) (fun hz4 => ?_)
      have hz4 := bne_eq_false_iff_eq.1 hz4
      have hp1 : d.pick1 p := ⟨by omega, by omega, by omega⟩
      refine box0 p.1 hb6 (by rfl) ?_
      exact upd hp1 _ (next hp1)
    · refine splitW_f (decide_eq_false (by omega)) ?_
      have hp1 : d.pick1 p := ⟨by omega, by omega, by rw [show d.secs = 64 by omega]; exact Nat.div_eq_of_lt hp64⟩
      refine box0 p.1 hb6 (by rfl) ?_
      exact upd hp1 _ (next hp1)
  obtain rfl : i = n := by omega
  refine splitW_f (decide_eq_false (by omega)) ?_
  have htk : l.take i = l := List.take_of_length_le (by omega)
  rw [htk] at hall hnd
  have hpick : d.pickOK l := ⟨hall, hnd⟩
  refine draw_i fun w3 he3 _ _ => ?_
  have hx3 := he2.trans he3
  refine ptr_i (ldA_i (ls := [.int .i64, .int .i64]) (x := (d.size, d.blocks, ())) ⟨by rw [add_mk, (hb.ext hx3).cell]; rfl, by rw [add_mk, (hb.ext hx3).cell]; rfl, trivial⟩ ?_)
  refine ptr_i (boxF 2 (Ad, nd, cd) (hb.ext hx3) (by rfl) ?_)
  refine callW_of (clones_calls (n := nd) (hd.sl.ext hx3) (by omega)) ?_
  rintro _ w4 ⟨An, cn, rfl, ho4, he4⟩
  refine ⟨(An, nd, cn), rfl, ?_⟩
  have hx4 := hx3.trans he4
  have hw3 := hx3.size
  refine h1_i (fun q hq => ?_) ?_
  · simp only [List.mem_cons, List.not_mem_nil, or_false] at hq
    rcases hq with rfl | rfl
    · show w4.cell? ((⟨b, 0, none⟩ : Addr).add 0) = _
      rw [add_mk, (hb.ext hx4).cell]; rfl
    · show w4.cell? ((⟨b, 0, none⟩ : Addr).add 1) = _
      rw [add_mk, (hb.ext hx4).cell]; rfl
  refine new_i fun r24 w5 hb24 he5 hr24 hz24 => ?_
  have hb24 : Blk w5 r24 [.int .i64 d.size, .int .i64 d.blocks, .slice An nd cn, .slice none 0 0, .int .i64 0, .int .i64 (-1)] 75 := hb24
  have hx5 := hx4.trans he5
  have ho5 := ho4.ext he5
  have hne24 : orow An ≠ some r24 := fun e => by have := ho4.row_lt _ e; omega
  have hAn5 : ∀ j, orow An = some j → w3.heap.size ≤ j ∧ j < r24 := fun j hj => ⟨ho4.row j hj, by have := ho4.row_lt j hj; omega⟩
  refine loopW_i (fun (y : Int × List Deferred × Unit) w' => ∃ (k : Nat) (ds : List Deferred), k ≤ i ∧ y = ((k : Int), ds, ()) ∧ Ext w w' ∧ w5.heap.size ≤ w'.heap.size ∧ Blk w' r24 [.int .i64 d.size, .int .i64 d.blocks, .slice An nd cn, .slice none 0 0, .int .i64 0, .int .i64 (-1)] 75
    ∧ Owni strE 9 w' w3.heap.size An nd cn ((l.take k).foldl (applyP d.pen) d.dur) ∧ Dfs w5.heap.size w' ds) (fun y => (i - y.1).toNat) ⟨0, [], by omega, rfl, hx5, Nat.le_refl _, hb24, ho5, trivial⟩ ?_
  rintro _ w6 ⟨k, ds, hk, rfl, hx6, hs6, hb24, ho6, hds⟩
  dsimp only
  by_cases hlt : k < i
  · refine splitW_t (decide_eq_true (by omega)) ?_
    refine idx_A (ls := [.int .i64, .int .u64]) (fun x : Int × Nat => (x.1, (x.2 : Int), ())) (0, 0) (hl.ext hx6) (fun _ => rfl) rfl (by omega) (by omega) ?_
    rw [Int.toNat_natCast]
    have e : l[k]? = some (l.getD k (0, 0)) := by rw [List.getD_eq_getElem?_getD, List.getElem?_eq_getElem (by omega)]; rfl
    have hmem := List.mem_of_getElem? e
    generalize l.getD k (0, 0) = p at e hmem ⊢
    have hp64 := hlm p hmem
    have hp1 := hall p hmem
    refine box_i (vs := pickE.f p) (by rfl) (pickE.one p) ?_ (by rfl)
    intro r29 w7 hb29 he7 hr29
    refine draw_i fun w8 he8 _ _ => ?_
    have hx8 := (hx6.trans he7).trans he8
    have hb29 := hb29.ext he8
    refine ptr_i (boxF 3 (Ap, np, cp) (hb.ext hx8) (by rfl) (box0 p.1 hb29 (by rfl) ?_))
    dsimp only
    have hsl8 := (hp.ext hx8).sl
    obtain ⟨q, hq⟩ : ∃ q, q = d.pen.getD p.1.toNat w00 := ⟨_, rfl⟩
    have eq1 : d.pen[p.1.toNat]? = some q := by rw [hq, List.getD_eq_getElem?_getD, List.getElem?_eq_getElem (by have := hp1.1; have := hp1.2.1; omega)]; rfl
    have hqok := hok.pend _ (List.mem_of_getElem? eq1)
    obtain ⟨pa, ea, hsa, hca⟩ := hsl8.at_ eq1
    refine guard_i ⟨hp1.1, by have := hp1.2.1; omega⟩ ?_
    rw [ea]
    refine ptr_i (ldA_i (ls := [.int .i64, .str]) (x := (q.1, q.2, ())) hca ?_)
    have hcells : ∀ {w' : World}, Ext w8 w' → HL w' [((pa.add (Int.toNat p.1 * 2)).add 0, .int .i64 q.1), ((pa.add (Int.toNat p.1 * 2)).add 1, .string q.2)] := fun he z hz => by
      simp only [List.mem_cons, List.not_mem_nil, or_false] at hz
      rcases hz with rfl | rfl
      · exact he.cell hca.1
      · exact he.cell hca.2.1
    refine newW_i ?_
    have hb35 := Blk.new w8 #[.int .i64 0, .string ByteArray.empty] 53
    have he35 : Ext w8 (w8.alloc (.cells #[.int .i64 0, .string ByteArray.empty] 53)) := (Ext.refl w8).alloc _
    refine h3_i (hcells he35) (held1Z (hb29.ext he35) (by rfl)) (by rw [← ea]; exact held1F ((hb.ext hx8).ext he35) (by rfl)) ?_
    refine refill (vs := writeE.f q) hb35 (by rfl) (writeE.one q) (by rfl) ?_
    intro w9 hb35 hx9 hk9 hs9
    have he9 : Ext w8 w9 := hx9 w8 he35 (Nat.le_refl _)
    generalize hr35 : w8.heap.size = r35 at hb35
    refine draw_i fun w10 he10 _ _ => ?_
    have he10 := he9.trans he10
    have hb35 := hb35.ext (by assumption)
    have hb29 := hb29.ext he10
    have hx10 := hx8.trans he10
    have hb24 := ((hb24.ext he7).ext he8).ext he10
    have ho10 := ((ho6.ext he7).ext he8).ext he10
    have hr35lt := hb35.lt
    have hr24lt := hb24.lt
    generalize hD : (l.take k).foldl (applyP d.pen) d.dur = D at ho10
    have hDl : D.length = nd := ho10.len
    have hDe : ∀ s ∈ D, (s.size : Int) = d.size := by rw [← hD]; exact apply_each _ _ _ hok.each
    refine ptr_i (boxF 2 (An, nd, cn) hb24 (by rfl) (box0 q.1 hb35 (by rfl) ?_))
    dsimp only
    have hq0 := hqok.1
    have hq1 := hqok.2.1
    have hq2 := hqok.2.2
    obtain ⟨old, hold⟩ : ∃ old, old = D.getD q.1.toNat ByteArray.empty := ⟨_, rfl⟩
    have eold : D[q.1.toNat]? = some old := by rw [hold, List.getD_eq_getElem?_getD, List.getElem?_eq_getElem (by omega)]; rfl
    have holdz := hDe _ (List.mem_of_getElem? eold)
    obtain ⟨ps, es, hss, hcs⟩ := ho10.sl.at_ eold
    refine guard_i ⟨hq0, by omega⟩ ?_
    rw [es]
    have hcs0 : w10.cell? (ps.add (Int.toNat q.1 * 1)) = some (.string old) := by have := hcs.1; rwa [add_zero] at this
    refine ptr_i (ld_i (l := .str) (x := old) hcs0 ?_)
    have hcellS : ∀ {w' : World}, Ext w10 w' → HL w' [((ps.add (Int.toNat q.1 * 1)), .string old)] := fun he z hz => by
      obtain rfl := List.mem_singleton.1 hz
      exact he.cell hcs0
    have hps : orow An = some ps.block := by rw [es]; rfl
    have hpsb := hAn5 _ hps
    refine ⟨?brA, ?brB⟩
    case' brA =>
      refine conv_bytesB (u := .string) (e := 5) (by kernel_rfl) (by kernel_rfl) (by kernel_rfl) ?_
      intro c11 w11 rest hB11 he11 hz11 hc11
      refine newW_i ?_
      have hb42 := Blk.new w11 #[.slice none 0 0] 62
      have he42 : Ext w11 (w11.alloc (.cells #[.slice none 0 0] 62)) := (Ext.refl w11).alloc _
      have he12 := he11.trans he42
      refine h3_i (hcellS he12) (held1Z (hb35.ext he12) (by rfl)) (by rw [← es]; exact held1F (hb24.ext he12) (by rfl)) ?_
      have hB12 := hB11.ext he42
      have hz12 : (w11.alloc (.cells #[.slice none 0 0] 62)).heap.size = w11.heap.size + 1 := by simp
      generalize h42 : w11.heap.size = r42 at hb42 hz12 hz11 ⊢
      generalize hrb : w10.heap.size = rb at hB12 hz11 ⊢
      generalize w11.alloc (.cells #[.slice none 0 0] 62) = w12 at hb42 he12 hB12 hz12 ⊢
      have f1 : w10.heap.size ≤ r42 := by omega
      have f2 : w10.heap.size ≤ rb := by omega
      have f3 : r42 ≠ rb := by omega
      have f4 : r42 < w12.heap.size := by omega
      have f5 : rb < w12.heap.size := by omega
    case' brB =>
      refine newW_i ?_
      have hb42 := Blk.new w10 #[.slice none 0 0] 62
      have he42 : Ext w10 (w10.alloc (.cells #[.slice none 0 0] 62)) := (Ext.refl w10).alloc _
      have hz42 : (w10.alloc (.cells #[.slice none 0 0] 62)).heap.size = w10.heap.size + 1 := by simp
      refine h3_i (hcellS he42) (held1Z (hb35.ext he42) (by rfl)) (by rw [← es]; exact held1F (hb24.ext he42) (by rfl)) ?_
      generalize w10.alloc (.cells #[.slice none 0 0] 62) = w11 at hb42 he42 hz42 ⊢
      refine conv_bytesB (u := .string) (e := 5) (by kernel_rfl) (by kernel_rfl) (by kernel_rfl) ?_
      intro c11 w12 rest hB12 he11 hz11 hc11
      have he12 := he42.trans he11
      have hb42 := hb42.ext he11
      generalize h42 : w10.heap.size = r42 at hb42 hz42 ⊢
      generalize hrb : w11.heap.size = rb at hB12 hz11 hz42 ⊢
      have f1 : w10.heap.size ≤ r42 := by omega
      have f2 : w10.heap.size ≤ rb := by omega
      have f3 : r42 ≠ rb := by omega
      have f4 : r42 < w12.heap.size := by omega
      have f5 : rb < w12.heap.size := by omega
    all_goals
      clear hz11
      have hx12 := hx10.trans he12
      have hposw := hT.pos
      have hw10 := hx10.size
      refine stW_blk hb42 (by show 0 < 1; omega) ?_
      have hb42 := hb42.set 0 (.slice (some ⟨rb, 0, none⟩) old.size c11)
      have hB13 := hB12.other (p := ⟨r42, 0, none⟩) f3 (.slice (some ⟨rb, 0, none⟩) old.size c11)
      have he13 : Ext w10 (w12.setCell ⟨r42, 0, none⟩ (.slice (some ⟨rb, 0, none⟩) old.size c11)) := he12.set f1 _
      have hz13 : (w12.setCell ⟨r42, 0, none⟩ (.slice (some ⟨rb, 0, none⟩) old.size c11)).heap.size = w12.heap.size := by simp
      dsimp only
      generalize w12.setCell ⟨r42, 0, none⟩ (.slice (some ⟨rb, 0, none⟩) old.size c11) = w13 at hb42 hB13 he13 hz13 ⊢
      have hx13 := hx10.trans he13
      refine boxF 1 (p.2 : Int) (hb29.ext he13) (by rfl) ?_
      refine callW_of (sectors_calls hp64 (hT.ext hx13)) ?_
      rintro v w14 ⟨rs, hit, hRS, hrs, hz14, he14⟩
      refine ⟨v, rfl, ?_⟩
      have hx14 := hx13.trans he14
      have he1014 := he13.trans he14
      have hb42 := hb42.ext he14
      have hB14 := hB13.ext he14
      have hb35 := hb35.ext he1014
      have hb24 := hb24.ext he1014
      have ho14 := ho10.ext he1014
      have hT14 := hRS.2
      have hBl : (B old).length = d.secs * 64 := by rw [← B_size]; omega
      have hql : (B q.2).length = (B old).length := by rw [hBl, ← B_size]; omega
      have hszo : old.size = d.secs * 64 := by omega
      have hszq : q.2.size = d.secs * 64 := by omega
      let FF : Nat → Prop := fun j => j = rb ∨ j = rs
      have hFF0 : ¬ FF 0 := by rintro (e | e) <;> omega
      refine rangeS_i (fun z w' => Only FF w14 w' ∧ BlkB w' rb (bV (mixS (B old) (B q.2) (doneS p.2 z)) ++ rest) 5 ∧ Blk w' rs [.int .u64 (secM z p.2 : Nat)] 42) (fun _ _ => False) (fun z => (((ctz (secM z p.2) : Nat) : Int), ()))
        ?_ hit ?_ ?_ ?_ ?_ ?_ ?_ ?_ ?_ ?_ ?_ ?_
      · intro z hz
        have hz' : z < (secL p.2).length := by simpa [secV] using hz
        have : (secV p.2)[z]? = some [.int .i64 (ctz (secM z p.2) : Nat)] := by unfold secV; rw [List.getElem?_map, (sec_get p.2 z hz').1]; rfl
        exact (List.getElem?_eq_some_iff.1 this).2.symm
      · rintro z w' ⟨g1, g2, g3⟩
        exact ⟨g3, hT14.only g1 hFF0⟩
      · rintro z w' ⟨g1, g2, g3⟩
        exact ⟨Only.trans g1 (Only.of_ext (F := fun _ => False) (Ext.refl w').drew) (fun _ h => h.elim), g2, g3⟩
      · rintro z w' w'' hs ⟨g1, g2, g3⟩
        exact ⟨g1.same hs (Nat.le_refl _), g2.same hs (by omega), hs.blk g3 (by omega)⟩
      · rintro z w' w'' hs ⟨g1, g2⟩
        refine ⟨hs.blk g1 (by omega), fun j hj => ?_⟩
        have hc := g2 j hj
        have := hs.2.2.2.2 0 (by omega) (by omega)
        unfold World.cell? at hc ⊢
        rw [this]
        exact hc
      · rintro z w' w'' hs ⟨⟩
      · rintro z w' w'' ⟨s1, s2, s3, s4, s5⟩
        refine ⟨s1, s2, s3, by simpa [TSec] using s4, fun j h1 h2 => ?_⟩
        unfold TSec
        by_cases hj : j = rs
        · subst hj
          show (w''.heap.modify j _)[j]? = (w'.heap.modify j _)[j]?
          rw [Array.getElem?_modify, Array.getElem?_modify, if_pos rfl, if_pos rfl, s5 j h1 h2]
        · rw [Below.heap_setCell _ _ _ _ hj, Below.heap_setCell _ _ _ _ hj]
          exact s5 j h1 h2
      · intro z w' j hj
        exact Below.heap_setCell _ _ _ _ (by show j ≠ rs; omega)
      · intro o
        have hxx : Ext w14 ((w14.alloc (.deferred (some []))).alloc o) := ((Ext.refl w14).alloc _).alloc _
        refine ⟨Only.of_ext hxx, ?_, hRS.1.ext hxx⟩
        rw [doneS_zero, mixS_none (fun _ _ => rfl)]
        exact hB14.ext hxx
      · rintro z hz w' N jump ⟨g1, g2, g3⟩ hszz hN hJ
        have hz' : z < (secL p.2).length := by simpa [secV] using hz
        obtain ⟨_, hne⟩ := sec_get p.2 z hz'
        have hle := secM_le z p.2
        have hbit := ctz_bit hne (by omega : secM z p.2 < 18446744073709551616)
        have hkk : ctz (secM z p.2) < d.secs := by
          rcases Nat.lt_or_ge (ctz (secM z p.2)) d.secs with hh | hh
          · exact hh
          · have h1 := Nat.ge_two_pow_of_testBit hbit
            have h2 : 2 ^ d.secs ≤ 2 ^ ctz (secM z p.2) := Nat.pow_le_pow_right (by decide) hh
            have h3 := hp1.2.2
            rw [Nat.div_eq_zero_iff] at h3
            have := Nat.two_pow_pos d.secs
            omega
        have hsucc := doneS_succ hp64 hz'
        generalize hkd : ctz (secM z p.2) = kk at hkk hsucc
        dsimp only
        refine draw_i fun w15 he15 hs15 hk15 => ?_
        have g1 : Only FF w14 w15 := Only.trans g1 (Only.of_ext (F := fun _ => False) he15) (fun _ h => h.elim)
        have g2 := g2.ext he15
        have g3 := g3.ext he15
        refine ldW_blk (x := (some (⟨rb, 0, none⟩ : Addr), old.size, c11)) (hb42.only g1 (by rintro (e | e) <;> omega)) (by rfl) ?_
        have ew1 : IntKind.wrap .i64 ((kk : Int) * 64) = ((kk * 64 : Nat) : Int) := by rw [wrap_i64 (by omega) (by omega)]; omega
        have ew2 : IntKind.wrap .i64 (IntKind.wrap .i64 ((kk : Int) + 1) * 64) = ((kk * 64 + 64 : Nat) : Int) := by rw [wrap_i64 (x := (kk : Int) + 1) (by omega) (by omega), wrap_i64 (by omega) (by omega)]; omega
        rw [ew1, ew2]
        dsimp only
        refine guard_i ⟨by omega, by omega, by omega⟩ ?_
        refine boxF 1 q.2 (hb35.only g1 (by rintro (e | e) <;> omega)) (by rfl) ?_
        refine guard_i ⟨by omega, by omega⟩ ?_
        simp only [Int.toNat_natCast]
        have hcut : cutAddr (some (⟨rb, 0, none⟩ : Addr)) (kk * 64) c11 1 = some ⟨rb, kk * 64, none⟩ := by
          unfold cutAddr
          rw [if_neg (by omega)]
          simp [add_mk]
        rw [hcut, show kk * 64 + 64 - kk * 64 = 64 by omega]
        have hMl : (mixS (B old) (B q.2) (doneS p.2 z)).length = d.secs * 64 := by rw [mixS_length, hBl]
        refine copy_strB elem_u8 g2 (by rw [List.length_append, length_bV, hMl]; omega) ?_
        intro w16 hB16 hg16
        have eX : B (q.2.extract (kk * 64) q.2.size) = (B q.2).drop (kk * 64) := by
          rw [B_extract, List.take_of_length_le (by rw [List.length_drop, ← B_size]; omega)]
        rw [eX, show min ((B q.2).drop (kk * 64)).length 64 = 64 by rw [List.length_drop, ← B_size]; omega, mixB (by omega), mix_copy hql (by omega), hsucc] at hB16
        have g1' : Only FF w14 w16 := g1.grow hg16 (fun j hj => by injection hj with hj; exact .inl (.inl hj.symm))
        have g3' := g3.grown hg16 (fun e => by injection e with e; omega)
        refine hN w16 ⟨⟨g3', hT14.only g1' hFF0⟩, ?_, ?_, ?_⟩ (by have := hg16.size; omega) (fun j hj => ?_)
        · exact g1'.grow (set_grown w16 rs 0 _) (fun j hj => by injection hj with hj; exact .inl (.inr hj.symm))
        · exact hB16.other (p := ⟨rs, 0, none⟩) (by show rs ≠ rb; omega) _
        · exact g3'.set 0 _
        · rw [hg16.block j (by omega) (fun e => by injection e with e; omega), hk15]
      · rintro w' ⟨g1, g2, g3⟩ hszz hdf
        have hlen2 : (secV p.2).length = (secL p.2).length := by simp [secV]
        rw [hlen2, doneS_end] at g2
        rw [jumpK]
        refine draw_i fun w15 he15 hs15 hk15 => ?_
        have g1 : Only FF w14 w15 := Only.trans g1 (Only.of_ext (F := fun _ => False) he15) (fun _ h => h.elim)
        have g2 := g2.ext he15
        have hb24 := hb24.only g1 (by rintro (e | e) <;> omega)
        have hb35 := hb35.only g1 (by rintro (e | e) <;> omega)
        have hb42 := hb42.only g1 (by rintro (e | e) <;> omega)
        have ho15 := ho14.only g1 (fun j hj => by have := hAn5 j hj; rintro (e | e) <;> omega)
        refine ptr_i (boxF 2 (An, nd, cn) hb24 (by rfl) (box0 q.1 hb35 (by rfl) (ldW_blk (x := (some (⟨rb, 0, none⟩ : Addr), old.size, c11)) hb42 (by rfl) ?_)))
        dsimp only
        refine conv_str (e := 5) (by kernel_rfl) (by kernel_rfl) (by kernel_rfl) (BlkB.sl g2 (by rw [length_bV, mixS_length, ← B_size]) (by omega)) ?_
        refine h2_i (held1Z hb35 (by rfl)) (held1F hb24 (by rfl)) ?_
        refine idx_setS ho15 hq0 (by omega) ?_
        intro w16 ho16 hg16
        have hrow : ∀ j, orow An = some j → j < r24 ∧ w3.heap.size ≤ j := fun j hj => ⟨(hAn5 j hj).2, (hAn5 j hj).1⟩
        have hx15 : Ext w w15 := hx14.only' g1 (fun j hj => by rcases hj with rfl | rfl <;> omega)
        have hx16 : Ext w w16 := hx15.grown hg16 (fun j hj => by have := hrow j hj; omega)
        refine ⟨⟨k + 1, ⟨.collected w14.heap.size, #[]⟩ :: ds, by omega, by rw [wrap_i64 (by omega) (by omega)]; rfl, hx16, ?_, ?_, ?_, ?_⟩, ?_⟩
        · have := hg16.size; have := hs15; omega
        · rw [← es]
          exact hb24.grown hg16 (fun e => hne24 e.symm)
        · rw [← es, take_snoc e, List.foldl_append, hD]
          show Owni strE 9 w16 w3.heap.size An nd cn (applyP d.pen D p)
          unfold applyP
          rw [← hq, ← hold]
          exact ho16
        · have hdw6 : ∀ j, j < w6.heap.size → w5.heap.size ≤ j → w16.heap[j]? = w6.heap[j]? := by
            intro j hj hj5
            have hext : Ext w6 w14 := ((he7.trans he8).trans he10).trans he1014
            have h610 : w6.heap.size ≤ w10.heap.size := ((he7.trans he8).trans he10).size
            have h614 := hext.size
            rw [hg16.block j (by omega) (fun e => by have := hrow j e.symm; omega), g1.2.2.2.2 j (by omega) (by rintro (e | e) <;> omega)]
            exact hext.block j hj
          have h514 : w5.heap.size ≤ w14.heap.size := by
            have := (((he7.trans he8).trans he10).trans he1014).size
            omega
          refine ⟨w14.heap.size, rfl, h514, ?_, fun d' hd' et => ?_, ?_⟩
          · rw [hg16.block _ (by omega) (fun e => by have := hrow _ e.symm; omega), hk15]
            exact hdf
          · have h1 := hds.lt d' hd' _ et
            have h2 := (((he7.trans he8).trans he10).trans he1014).size
            omega
          · exact hds.kept (fun j hj ⟨d', hd', et⟩ => by rw [hdw6 j (hds.lt d' hd' j et) (hds.ge d' hd' j et)]; exact hj)
        · rw [wrap_i64 (by omega) (by omega)]; omega
      · rintro c w' ⟨⟩
  · obtain rfl : k = i := by omega
    refine splitW_f (decide_eq_false (by omega)) ?_
    refine leave_all (B := w5.heap.size) ds w6 hds fun w7 hs7 => ?_
    rw [htk] at ho6
    have hne : orow An ≠ some r24 := hne24
    refine .inl ⟨hpick, r24, rfl, _, devAt_new (d := d.crashed l) (hb24.sameDf hs7) ((ho6.sameDf hs7).lower (Nat.zero_le _)) rfl hne (hok.crashed l), ?_, ?_⟩
    · rintro j (rfl | hj | hj)
      · have := hx4.size; omega
      · have := (hAn5 j hj).1; omega
      · cases hj
    · refine ⟨hs7.1.trans hx6.os, hs7.2.1.trans hx6.tape, hs7.2.2.1.trans hx6.output, by have := hs7.2.2.2.1; have := hx6.size; omega, fun j hj => ?_⟩
      rw [hs7.2.2.2.2 j (.inl (by have := hx5.size; omega))]
      exact hx6.block j hj
end Go.Proofs.YtpbjbhcejgnhiaaDoor.V
