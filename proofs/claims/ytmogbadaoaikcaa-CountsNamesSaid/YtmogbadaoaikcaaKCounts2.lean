/- Contracts of counts.Pages and what it calls. -/
import Derived.Test.YtmogbadaoaikcaaKCounts
import Derived.Test.YtmogbadaoaikcaaKIter
set_option linter.unusedVariables false
set_option linter.unusedSimpArgs false
namespace Go.Proofs.Ytmogbadaoaikcaa.V
open Go Go.Proofs Go.RowKit

theorem elem_strK : ElemK Try.prog 46 9 (.string ByteArray.empty) strE.k 16 := by
  refine ⟨by kernel_rfl, by kernel_rfl, rfl⟩
/-- Room of a frame in a block of this size. -/
def roomOf (size : Int) : Int := if geoOK size 8 then size - 16 else 0
theorem room_calls (w : World) (size : Int) : Calls Try.prog 31 #[.int .i64 size] w (Ret fun v w' => v = .int .i64 (roomOf size) ∧ Ext w w') := by
  apply calls31
  unfold S31 roomOf
  refine callW_of (devcheck_calls w size 8) ?_
  rintro _ w1 ⟨rfl, he⟩
  refine ⟨_, rfl, ?_⟩
  cases hok : geoOK size 8 with
  | false => exact splitW_t (by rfl) ⟨rfl, he⟩
  | true =>
    refine splitW_f (by rfl) ⟨?_, he⟩
    unfold geoOK at hok
    have hok := of_decide_eq_true hok
    rw [wrap_i64 (x := size - 12) (by omega) (by omega), wrap_i64 (by omega) (by omega), if_pos rfl]
    congr 1
    omega
theorem Owni.sameBut {α : Type} {E : Enc α} {e : TypeId} {w w' : World} {B a b n c : Nat} {A : Option Addr} {xs : List α} (h : Owni E e w B A n c xs) (hs : SameBut a b w w') (ha : a < B) (hb : b < B) : Owni E e w' B A n c xs := by
  refine ⟨h.1, ?_⟩
  rcases h.2 with h1 | ⟨g, cap, cur, hv, hB, hg, r⟩
  · exact .inl h1
  · exact .inr ⟨g, cap, cur, hv, hB, (hs.2.2.2.2 g (by omega) (by omega)).trans hg, r⟩
theorem Ext.sameBut {w0 w w' : World} {a b : Nat} (h : Ext w0 w) (hs : SameBut a b w w') (ha : w0.heap.size ≤ a) (hb : w0.heap.size ≤ b) : Ext w0 w' :=
  ⟨hs.1.trans h.os, hs.2.1.trans h.tape, hs.2.2.1.trans h.output, by have := h.size; have := hs.2.2.2.1; omega, fun k hk => (hs.2.2.2.2 k (by omega) (by omega)).trans (h.block k hk)⟩
/-- One page's bytes; the pages of a row of counts. -/
def pageB (l : List Nat) (per i : Nat) : List UInt8 := ((l.drop (i * per)).take per).flatMap (le 2)
def pagesL (l : List Nat) (per : Nat) : List ByteArray := (List.range (cutsN l.length per)).map fun i => ⟨(pageB l per i).toArray⟩
def perOf (size : Int) : Nat := (Int.tdiv (roomOf size) 2).toNat
theorem perOf_spec {size : Int} (hs : geoOK size 8 = true) : 56 ≤ perOf size ∧ perOf size ≤ 2040 ∧ IntKind.wrap .i64 (Int.tdiv (roomOf size) 2) = ((perOf size : Nat) : Int) := by
  unfold perOf roomOf
  rw [if_pos hs]
  unfold geoOK at hs
  have hs := of_decide_eq_true hs
  have e : Int.tdiv (size - 16) 2 = (size - 16) / 2 := Int.tdiv_eq_ediv_of_nonneg (by omega)
  rw [e, wrap_i64 (by omega) (by omega)]
  omega
theorem uV_sl {w : World} {r n : Nat} {l : List Nat} {q : List Value} {k : IntKind} {t : TypeId} (h : Blk w r (uV k l ++ q) t) (hn : l.length = n) (hm : n ≤ 4096) : Sl w (some ⟨r, 0, none⟩) n (uV k l) :=
  ⟨by rw [length_uV, hn], by omega, fun _ => ⟨_, rfl, fun j v hj => by
    have hjl : j < (uV k l).length := (List.getElem?_eq_some_iff.1 hj).1
    rw [add_mk, h.cell, Nat.zero_add, List.getElem?_append_left hjl]
    exact hj⟩⟩
theorem uV_drop (k : IntKind) (l : List Nat) (i : Nat) : (uV k l).drop i = uV k (l.drop i) := by simp [uV, List.map_drop]
theorem uV_take (k : IntKind) (l : List Nat) (i : Nat) : (uV k l).take i = uV k (l.take i) := by simp [uV, List.map_take]
theorem pages_calls {w : World} {b r : Nat} {size : Int} {q : List Value} {l : List Nat} (h : Cnt w b r size q l) (hs : geoOK size 8 = true) : Calls Try.prog 19 #[.pointer (some ⟨b, 0, none⟩)] w (Ret fun v w' => ∃ x : Option Addr × Nat × Nat, v = .slice x.1 x.2.1 x.2.2 ∧ Owni strE 9 w' w.heap.size x.1 x.2.1 x.2.2 (pagesL l (perOf size)) ∧ Ext w w') := by
  apply calls19
  unfold S19
  have hl := h.len
  obtain ⟨hp1, hp2, hper⟩ := perOf_spec hs
  apply newW_i
  have hr1 := Blk.new w #[.slice none 0 0] 46
  have he1 := (Ext.refl w).alloc (.cells #[.slice none 0 0] 46)
  generalize w.alloc (.cells #[.slice none 0 0] 46) = w1 at hr1 he1 ⊢
  generalize hrr : w.heap.size = r1 at hr1 ⊢
  refine splitW_f (by rfl) ?_
  have he1 := he1.drew
  have hr1 := hr1.drew
  have h1 := h.ext he1
  show (ptrW _ _) w1.drew
  generalize w1.drew = w2 at he1 hr1 h1 ⊢
  refine ptr_i ?_
  refine ld_blk (o := 2) (x := (some ⟨r, 0, none⟩, l.length, l.length + q.length)) h1.head (by rfl) ?_
  dsimp only
  refine ptr_i ?_
  refine ldW_blk (x := size) h1.head (by rfl) ?_
  refine callW_of (room_calls w2 size) ?_
  rintro _ w3 ⟨rfl, he3⟩
  refine ⟨_, rfl, ?_⟩
  have he03 := he1.trans he3
  have hr3 := hr1.ext he3
  have h3 := h1.ext he3
  refine ⟨fun ls hls p hp => ?_, ?_⟩
  · simp only [List.mem_singleton] at hls
    subst hls
    simp only [List.mem_singleton] at hp
    subst hp
    exact h3.head.cellsAt.2.2.1
  rw [hper]
  refine callW_of (chunk16_calls (by omega) (by omega) (by omega)) ?_
  rintro v w4 ⟨hit, hRc, hs4, he4⟩
  refine ⟨v, rfl, ?_⟩
  have he04 := he03.trans he4
  have hr4 := hr3.ext he4
  have h4 := h3.ext he4
  have hsz := he03.size
  have hr3lt := hr3.lt
  generalize hper2 : perOf size = per at *
  refine range_i (R := RChunk16 w3.heap.size (w3.heap.size + 1) (some ⟨r, 0, none⟩) l.length (l.length + q.length) per) (fun i w' => Ext w w' ∧ RChunk16 w3.heap.size (w3.heap.size + 1) (some ⟨r, 0, none⟩) l.length (l.length + q.length) per w' ∧ ∃ A c, Blk w' r1 [.slice A i c] 46 ∧ Owni strE 9 w' (w4.heap.size + 2) A i c ((pagesL l per).take i)) hit (fun i w' hI => hI.2.1) (fun i w' hI => ⟨hI.1.drew, hI.2⟩) ?_ ?_ ?_ ?_
  · rintro i w' w'' hsb ⟨e1, ⟨e2, e3⟩, A, c, e4, e5⟩
    exact ⟨e1.sameBut hsb (by omega) (by omega), ⟨(hsb.2.2.2.2 _ (by omega) (by omega)).trans e2, (hsb.2.2.2.2 _ (by omega) (by omega)).trans e3⟩, A, c, (hsb.2.2.2.2 _ (by omega) (by omega)).trans e4, e5.sameBut hsb (by omega) (by omega)⟩
  · intro o
    exact ⟨(he04.alloc _).alloc _, ⟨(hRc.1.alloc _).alloc _, (hRc.2.alloc _).alloc _⟩, none, 0, (hr4.alloc _).alloc _, Owni.nil _ _ _⟩
  · rintro i hi w' N jump ⟨e1, ⟨e2, e3⟩, A, c, e4, e5⟩ hsz' hN
    rw [cutsV_length] at hi
    have hin := (cutsN_lt (by omega)).1 hi
    refine ⟨((cutAddr (some ⟨r, 0, none⟩) (i * per) (i * per + min per (l.length - i * per)) 1, min per (l.length - i * per), min per (l.length - i * per)), ()), by simp [cutsV], ?_⟩
    dsimp only
    have hcut : Sl w' (cutAddr (some ⟨r, 0, none⟩) (i * per) (i * per + min per (l.length - i * per)) 1) (min per (l.length - i * per)) (uV .u16 ((l.drop (i * per)).take per)) := by
      have := (uV_sl (h.ext e1).row rfl hl.2).cut (l := i * per) (k := min per (l.length - i * per)) (m := i * per + min per (l.length - i * per)) (by omega) (by omega)
      rw [uV_drop, uV_take] at this
      have e : (l.drop (i * per)).take (min per (l.length - i * per)) = (l.drop (i * per)).take per := by
        rcases Nat.le_total per (l.length - i * per) with h | h
        · rw [Nat.min_eq_left h]
        · rw [Nat.min_eq_right h, List.take_of_length_le (by simp), List.take_of_length_le (by simpa using h)]
      rw [e] at this
      exact this
    have hml : ((l.drop (i * per)).take per).length = min per (l.length - i * per) := by simp
    generalize min per (l.length - i * per) = m at hcut hml ⊢
    generalize cutAddr (some ⟨r, 0, none⟩) (i * per) (i * per + m) 1 = X at hcut ⊢
    have hpage : pageB l per i = ((l.drop (i * per)).take per).flatMap (le 2) := rfl
    have hcs : ∀ x ∈ (l.drop (i * per)).take per, x < 65536 := fun x hx => h.fits x (List.mem_of_mem_drop (List.mem_of_mem_take hx))
    have hm : m ≤ 4096 := by have : ((l.drop (i * per)).take per).length ≤ l.length := by simp; omega
                             omega
    generalize (l.drop (i * per)).take per = cs at hcut hml hpage hcs
    refine loopW_i (fun y w2 => Ext w' w2 ∧ ∃ (j : Nat) (A2 : Option Addr) (c2 : Nat), j ≤ m ∧ y = ((A2, 2 * j, c2), (j : Int), ()) ∧ Own 5 w2 w'.heap.size A2 (2 * j) c2 (bV ((cs.take j).flatMap (le 2)))) (fun y => (m - y.2.1).toNat) ⟨Ext.refl w', 0, none, 0, by omega, rfl, Own.nil _ _ _⟩ ?_
    rintro _ w5 ⟨e6, j, A2, c2, hj, rfl, ho⟩
    dsimp only
    by_cases hlt : j < m
    · refine splitW_t (decide_eq_true (by omega)) ?_
      have hcut5 := hcut.ext e6
      refine guard_i ⟨by omega, by omega⟩ ?_
      obtain ⟨a, ha, hcell⟩ := hcut5.2.2 (by omega)
      refine ⟨a, ha, ?_⟩
      rw [Int.toNat_natCast, Nat.mul_one]
      refine ld_i (x := ((cs.getD j 0 : Nat) : Int)) (hcell j _ (uV_get (by omega))) ?_
      have hx : cs.getD j 0 < 65536 := by
        rw [List.getD_eq_getElem?_getD, List.getElem?_eq_getElem (by omega)]
        exact hcs _ (List.getElem_mem _)
      rw [wrap_u64_nat (by omega)]
      refine callW_of (octput_calls (k := 2) ho e6.size (by omega) (by omega) (by omega) (by omega)) ?_
      rintro _ w6 ⟨x, rfl, ho6, hg6⟩
      refine ⟨x, rfl, ?_⟩
      rw [wrap_i64 (by omega) (by omega)]
      have hlen : x.2.1 = 2 * (j + 1) := by
        have := ho6.sl.blen
        rw [List.length_append, le_length] at this
        have := ho.sl.blen
        omega
      obtain ⟨x1, x2, x3⟩ := x
      dsimp only at hlen ho6 hg6 ⊢
      subst hlen
      refine ⟨⟨e6.grown hg6.grown ho.row', j + 1, x1, x3, by omega, rfl, ?_⟩, by omega⟩
      have e : (cs.take (j + 1)).flatMap (le 2) = (cs.take j).flatMap (le 2) ++ le 2 (cs.getD j 0) := by
        rw [List.take_succ_eq_append_getElem (by omega), List.flatMap_append, List.getD_eq_getElem?_getD, List.getElem?_eq_getElem (by omega)]
        simp
      rw [e]
      exact ho6
    · obtain rfl : j = m := by omega
      refine splitW_f (decide_eq_false (by omega)) ?_
      rw [List.take_of_length_le (by omega), ← hpage] at ho
      refine ldW_blk (x := (A, i, c)) (e4.ext e6) (by rfl) ?_
      dsimp only
      refine conv_str (e := 5) (by kernel_rfl) (by kernel_rfl) (by kernel_rfl) ho.sl ?_
      have hii : i ≤ 4096 := by
        have : i * 1 ≤ i * per := Nat.mul_le_mul_left _ (by omega)
        omega
      refine append_newi (E := strE) (ys := [(⟨(pageB l per i).toArray⟩ : ByteArray)]) (by rfl) rfl elem_strK (e5.ext e6) (by have := e6.size; omega) (by omega) (by omega) ?_
      intro A3 c3 w6 ho3 hg3
      have e46 : Blk w6 r1 [.slice A i c] 46 := (e4.ext e6).grown hg3.grown (by intro hh; have := e5.row _ hh.symm; omega)
      refine stW_blk e46 (by simp) ?_
      have hset := e46.set 0 (.slice A3 (i + 1) c3)
      have e7 := e1.trans e6
      have e8 : Ext w w6 := e7.grown hg3.grown (fun j hj => by have := e5.row j hj; omega)
      have hx6 : ∀ k, k < w4.heap.size + 2 → w6.heap[k]? = w'.heap[k]? := fun k hk => by
        rw [hg3.grown.block k (by have := e6.size; omega) (fun hh => by have := e5.row _ hh.symm; omega)]
        exact e6.block k (by omega)
      refine hN _ ⟨e8.set (by simp only; omega) _, ⟨?_, ?_⟩, A3, c3, hset, ?_⟩ ?_ ?_
      · exact Blk.other (show Blk w6 _ _ _ from (hx6 _ (by omega)).trans e2) (by simp only; omega) _
      · exact Blk.other (show Blk w6 _ _ _ from (hx6 _ (by omega)).trans e3) (by simp only; omega) _
      · have e9 : (pagesL l per).take (i + 1) = (pagesL l per).take i ++ [(⟨(pageB l per i).toArray⟩ : ByteArray)] := by
          rw [List.take_succ_eq_append_getElem (by simpa [pagesL] using hi)]
          simp [pagesL]
        rw [e9]
        refine ho3.grown (row := some r1) ⟨rfl, rfl, rfl, by simp, fun k hk hne => Below.heap_setCell _ _ _ _ (fun e => hne (by rw [e]))⟩ (fun j hj he => ?_)
        injection hj with hj
        have := ho3.row _ he
        omega
      · have := hg3.grown.size
        have := e6.size
        simp
        omega
      · intro k hk
        rw [Below.heap_setCell _ _ _ _ (by simp only; omega)]
        exact hx6 k (by omega)
  · rintro w' ⟨e1, ⟨e2, e3⟩, A, c, e4, e5⟩ hsz' hd
    have elen : (pagesL l per).length = cutsN l.length per := by simp [pagesL]
    rw [cutsV_length] at e4 e5
    rw [List.take_of_length_le (by omega)] at e5
    show (ldW _ _ _) w'
    refine ldW_blk (x := (A, cutsN l.length per, c)) e4 (by rfl) ?_
    dsimp only
    refine stW_blk e4 (by simp) ?_
    have hset := e4.set 0 (.slice A (cutsN l.length per) c)
    refine leave_i (by rw [Below.heap_setCell _ _ _ _ (by simp only; omega)]; exact hd) ?_
    show (ldW _ _ _) _
    refine ldW_blk (x := (A, cutsN l.length per, c)) (show Blk _ r1 [.slice A (cutsN l.length per) c] 46 from (setO_other (by omega)).trans hset) (by rfl) ?_
    refine ⟨(A, cutsN l.length per, c), rfl, ?_, (e1.set (by simp only; omega) _).setO (by omega) _⟩
    have e6 := e5.grown (w' := w'.setCell ⟨r1, 0, none⟩ (.slice A (cutsN l.length per) c)) (row := some r1) ⟨rfl, rfl, rfl, by simp, fun k hk hne => Below.heap_setCell _ _ _ _ (fun e => hne (by rw [e]))⟩ (fun j hj he => by
      injection hj with hj
      have := e5.row _ he
      omega)
    have e7 : Owni strE 9 (setO (w'.setCell ⟨r1, 0, none⟩ (.slice A (cutsN l.length per) c)) w4.heap.size (.deferred none)) (w4.heap.size + 2) A (cutsN l.length per) c (pagesL l per) :=
      e6.sameBut (sameBut_setO (b := w4.heap.size) (.inl rfl)) (by omega) (by omega)
    exact e7.lower (by omega)
end Go.Proofs.Ytmogbadaoaikcaa.V
