/- CountsNames, as a contract. -/
import Derived.Test.YtmogbadaoaikcaaL
import Derived.Test.YtmogbadaoaikcaaKRef12
set_option linter.unusedVariables false
set_option linter.unusedSimpArgs false
namespace Go.Proofs.Ytmogbadaoaikcaa.V
open Go Go.Proofs Go.RowKit

theorem neq_geo2 (w : World) (a b c d : Int) (h : (a == c && b == d) = false) (x y : Operand) : (eqS .neq 23 x y (.agg #[.int .i64 a, .int .i64 b]) (.agg #[.int .i64 c, .int .i64 d])).run Try.prog w = .ok (.bool true) w := by
  have := eqS_neq (x := x) (y := y) (by kernel_rfl) (by kernel_rfl) (by kernel_rfl) (fields_geo w a b c d)
  rw [Bool.and_true, h] at this
  exact this
/-- What is held is of another geometry. -/
theorem takeother_calls {w : World} {b r b2 r2 : Nat} {size size2 : Int} {q q2 : List Value} {l l2 : List Nat} (h : Cnt w b r size q l) (h2 : Cnt w b2 r2 size2 q2 l2) (hne : (size2 == size && (l2.length : Int) == (l.length : Int)) = false) :
    Calls Try.prog 11 #[.pointer (some ⟨b, 0, none⟩), .pointer (some ⟨b2, 0, none⟩)] w (Ret fun v w' => v = .tuple #[.int .u32 0, .int .i64 2] ∧ Ext w w') := by
  apply calls11
  unfold S11
  intro J hJ
  refine splitW_f (by rfl) ?_
  have he : Ext w w.drew := (Ext.refl w).drew
  have h := h.ext he
  have h2 := h2.ext he
  show (splitW _ _ _) w.drew
  generalize w.drew = w1 at he h h2 ⊢
  refine splitW_t (by rfl) (ptr_i ?_)
  have c2 := h2.head.cellsAt
  have c1 := h.head.cellsAt
  refine ldA_i (ls := [(.int .i64), (.int .i64)]) (x := (size2, (l2.length : Int), ())) ⟨c2.1, c2.2.1, trivial⟩ (ptr_i ?_)
  refine ldA_i (ls := [(.int .i64), (.int .i64)]) (x := (size, (l.length : Int), ())) ⟨c1.1, c1.2.1, trivial⟩ ?_
  refine ⟨true, fun w' => neq_geo2 w' _ _ _ _ hne _ _, ?_⟩
  exact splitW_t (by rfl) ⟨rfl, he⟩
theorem takenil_calls (w : World) (x : Option Addr) : Calls Try.prog 11 #[.pointer none, .pointer x] w (Ret fun v w' => v = .tuple #[.int .u32 0, .int .i64 1] ∧ w' = w) := by
  apply calls11
  unfold S11
  intro J hJ
  exact splitW_t (by rfl) ⟨rfl, rfl⟩
theorem atnil_calls (w : World) (n : Int) : Calls Try.prog 28 #[.pointer none, .int .u32 n] w (Ret fun v w' => v = .tuple #[.pointer none, .int .i64 1] ∧ w' = w) := by
  apply calls28
  unfold S28
  exact splitW_t (by rfl) ⟨rfl, rfl⟩
theorem addnil_calls (w : World) (n : Int) : Calls Try.prog 18 #[.pointer none, .int .u32 n] w (Ret fun v w' => v = .int .i64 1 ∧ w' = w) := by
  apply calls18
  unfold S18
  refine callW_of (atnil_calls w n) ?_
  rintro _ w ⟨rfl, hw⟩
  subst hw
  exact ⟨(none, 1, ()), rfl, splitW_t (by rfl) ⟨rfl, rfl⟩⟩
theorem clonenil_calls (w : World) : Calls Try.prog 17 #[.pointer none] w (Ret fun v w' => v = .pointer none ∧ w' = w) := by
  apply calls17
  unfold S17
  exact splitW_t (by rfl) ⟨rfl, rfl⟩
theorem newnine_calls (w : World) : Calls Try.prog 9 #[.agg #[.int .i64 128, .int .i64 9]] w (Ret fun v w' => (∃ b r, v = .tuple #[.pointer (some ⟨b, 0, none⟩), .int .i64 0] ∧ Cnt w' b r 128 [] [1, 1, 0, 0, 0, 0, 0, 0, 0] ∧ w.heap.size ≤ b ∧ w.heap.size ≤ r) ∧ Ext w w') := by
  refine (new_calls w 128 9).mono (Ret.mono ?_)
  rintro v w' ⟨x, rfl, hx, he⟩
  have hg : geoOK 128 9 = true := by decide
  rw [hg, if_pos rfl] at hx
  obtain ⟨b, r, rfl, hc, h1, h2⟩ := hx
  exact ⟨⟨b, r, by rw [hg]; rfl, hc, h1, h2⟩, he⟩
theorem newnought_calls (w : World) : Calls Try.prog 9 #[.agg #[.int .i64 0, .int .i64 0]] w (Ret fun v w' => v = .tuple #[.pointer none, .int .i64 2] ∧ Ext w w') := by
  refine (new_calls w 0 0).mono (Ret.mono ?_)
  rintro v w' ⟨x, rfl, hx, he⟩
  have hg : geoOK 0 0 = false := by decide
  rw [hg, if_neg (by simp)] at hx
  subst hx
  exact ⟨by rw [hg]; rfl, he⟩
/-- The three Counts of the example. -/
structure Tri (w0 w : World) (b r b2 r2 b3 r3 : Nat) (q3 : List Value) (l l3 : List Nat) : Prop where
  c : Cnt w b r 128 [] l
  o : Cnt w b2 r2 128 [] [1, 1, 0, 0, 0, 0, 0, 0, 0]
  h : Cnt w b3 r3 128 q3 l3
  ext : Ext w0 w
  ne : b ≠ r3 ∧ r ≠ r3 ∧ b2 ≠ r ∧ b2 ≠ r3 ∧ r2 ≠ r ∧ r2 ≠ r3 ∧ b3 ≠ r ∧ w0.heap.size ≤ r ∧ w0.heap.size ≤ r3
theorem Tri.upc {w0 w w' : World} {b r b2 r2 b3 r3 : Nat} {q3 : List Value} {l l' l3 : List Nat} (t : Tri w0 w b r b2 r2 b3 r3 q3 l l3) (hc : Cnt w' b r 128 [] l') (hg : w.grownBy w' (some r)) : Tri w0 w' b r b2 r2 b3 r3 q3 l' l3 := by
  obtain ⟨n1, n2, n3, n4, n5, n6, n7, n8, n9⟩ := t.ne
  exact ⟨hc, t.o.kept hg n3 n5, t.h.kept hg n7 (fun e => n2 e.symm), t.ext.grown hg (fun j hj => by injection hj with hj; omega), t.ne⟩
theorem Tri.uph {w0 w w' : World} {b r b2 r2 b3 r3 : Nat} {q3 : List Value} {l l3 l3' : List Nat} (t : Tri w0 w b r b2 r2 b3 r3 q3 l l3) (hc : Cnt w' b3 r3 128 q3 l3') (hg : w.grownBy w' (some r3)) : Tri w0 w' b r b2 r2 b3 r3 q3 l l3' := by
  obtain ⟨n1, n2, n3, n4, n5, n6, n7, n8, n9⟩ := t.ne
  exact ⟨t.c.kept hg n1 n2, t.o.kept hg n4 n6, hc, t.ext.grown hg (fun j hj => by injection hj with hj; omega), t.ne⟩
theorem Tri.more {w0 w w' : World} {b r b2 r2 b3 r3 : Nat} {q3 : List Value} {l l3 : List Nat} (t : Tri w0 w b r b2 r2 b3 r3 q3 l l3) (he : Ext w w') : Tri w0 w' b r b2 r2 b3 r3 q3 l l3 :=
  ⟨t.c.ext he, t.o.ext he, t.h.ext he, t.ext.trans he, t.ne⟩
theorem Tri.held {w0 w : World} {b r b2 r2 b3 r3 : Nat} {q3 : List Value} {l l3 : List Nat} (t : Tri w0 w b r b2 r2 b3 r3 q3 l l3) (hl : l3.length = l.length) : HeldC w (some ⟨b3, 0, none⟩) b r 128 l.length l3 := by
  obtain ⟨n1, n2, n3, n4, n5, n6, n7, n8, n9⟩ := t.ne
  exact .inr ⟨b3, r3, rfl, ⟨q3, t.h⟩, hl, n7, fun e => n2 e.symm⟩
def lsN (i : Nat) : List Nat := [1, 1, 0, 2] ++ (List.replicate i 1 ++ List.replicate (4 - i) 0)
theorem lsN_step : ∀ i, i < 4 → takeL (lsN i) [1, 1, 1, 0, 0, 0, 0, 0] = lsN (i + 1)
  | 0, _ => rfl | 1, _ => rfl | 2, _ => rfl | 3, _ => rfl
  | n + 4, h => by omega
def pgA : ByteArray := ByteArray.mk #[1, 0, 1, 0, 0, 0, 2, 0, 0, 0, 0, 0, 0, 0, 0, 1]
def pgB : ByteArray := ByteArray.mk #[2, 0, 1, 0, 0, 0, 2, 0, 0, 0, 0, 0, 0, 0, 0, 1]
theorem one_sli {w : World} {s : ByteArray} {b : Nat} (h : Blk w b [.string s] 9) : Sli strE w (some ⟨b, 0, none⟩) 1 [s] := Sli.of_blk (E := strE) (xs := [s]) (by simpa [Enc.flat, strE] using h) rfl (by omega)
theorem names_calls (w : World) : Calls Try.prog 7 #[] w (Ret fun v w' => v = .bool true ∧ Ext w w') := by
  apply calls7
  unfold S7
  refine callW_of (lives_calls w) ?_
  rintro _ w1 ⟨rfl, he1⟩
  refine ⟨_, rfl, splitW_f (by rfl) ?_⟩
  refine callW_of (small_calls w1) ?_
  rintro _ w2 ⟨rfl, he2⟩
  refine ⟨(128, 8, ()), rfl, ?_⟩
  have he2 := he1.trans he2
  refine callW_of (newsmall_calls w2) ?_
  rintro _ w3 ⟨⟨b, r, rfl, hc, hb, hr⟩, he3⟩
  refine ⟨(some ⟨b, 0, none⟩, 0, ()), rfl, ?_⟩
  refine callW_of (newnine_calls w3) ?_
  rintro _ w4 ⟨⟨b2, r2, rfl, ho, hb2, hr2⟩, he4⟩
  refine ⟨(some ⟨b2, 0, none⟩, 0, ()), rfl, ?_⟩
  refine callW_of (newnought_calls w4) ?_
  rintro _ w5 ⟨rfl, he5⟩
  refine ⟨(none, 2, ()), rfl, ?_⟩
  dsimp only
  refine callW_of (cntclone_calls ((hc.ext he4).ext he5)) ?_
  rintro _ w6 ⟨⟨b3, r3, q3, rfl, hh, hb3, hr3⟩, he6⟩
  refine ⟨some ⟨b3, 0, none⟩, rfl, ?_⟩
  have l1 := hc.head.lt
  have l2 := hc.row.lt
  have l3 := (ho.head).lt
  have l4 := ho.row.lt
  have s2 := he2.size
  have s3 := he3.size
  have s4 := he4.size
  have s5 := he5.size
  have t : Tri w w6 b r b2 r2 b3 r3 q3 [1, 1, 0, 0, 0, 0, 0, 0] [1, 1, 0, 0, 0, 0, 0, 0] :=
    ⟨((hc.ext he4).ext he5).ext he6, (ho.ext he5).ext he6, hh, (((he2.trans he3).trans he4).trans he5).trans he6, by omega⟩
  clear hc ho hh he1 he2 he3 he4 he5 he6
  refine callW_of (take_calls t.h (.inl ⟨rfl, rfl⟩)) ?_
  rintro _ w7 ⟨rfl, hc7, hg7⟩
  refine ⟨(2, 0, ()), rfl, ?_⟩
  have t := t.uph hc7 hg7
  refine callW_of (take_calls t.c (t.held rfl)) ?_
  rintro _ w8 ⟨rfl, hc8, hg8⟩
  refine ⟨(3, 0, ()), rfl, ?_⟩
  have t := t.upc hc8 hg8
  refine callW_of (takeother_calls t.c t.o (by decide)) ?_
  rintro _ w9 ⟨rfl, he9⟩
  refine ⟨(0, 2, ()), rfl, ?_⟩
  have t := t.more he9
  refine callW_of (add_calls t.c 3 (by omega)) ?_
  rintro _ w10 ⟨rfl, hc10, hg10⟩
  refine ⟨(0 : Int), rfl, ?_⟩
  have t := t.upc hc10 hg10
  refine callW_of (add_calls t.c 2 (by omega)) ?_
  rintro _ w11 ⟨rfl, hc11, hg11⟩
  refine ⟨(8 : Int), rfl, ?_⟩
  have t := t.upc hc11 hg11
  refine callW_of (add_calls t.c 1 (by omega)) ?_
  rintro _ w12 ⟨rfl, hc12, hg12⟩
  refine ⟨(2 : Int), rfl, ?_⟩
  have t := t.upc hc12 hg12
  refine callW_of (sub_calls t.c 9 (by omega)) ?_
  rintro _ w13 ⟨rfl, hc13, hg13⟩
  refine ⟨(0, 2, ()), rfl, ?_⟩
  have t := t.upc hc13 hg13
  refine callW_of (sub_calls t.c 4 (by omega)) ?_
  rintro _ w14 ⟨rfl, hc14, hg14⟩
  refine ⟨(0, 8, ()), rfl, ?_⟩
  have t : Tri w w14 b r b2 r2 b3 r3 q3 (lsN 0) [1, 1, 1, 0, 0, 0, 0, 0] := t.upc hc14 hg14
  clear hc7 hg7 hc8 hg8 he9 hc10 hg10 hc11 hg11 hc12 hg12 hc13 hg13 hc14 hg14
  refine callW_of (pages_calls t.c (by decide)) ?_
  rintro _ w15 ⟨⟨A, n, c⟩, rfl, hp, he15⟩
  refine ⟨(A, n, c), rfl, ?_⟩
  dsimp only at hp ⊢
  have hpl : (pagesL (lsN 0) (perOf 128)).length = 1 := by kernel_rfl
  obtain rfl : 1 = n := by rw [← hp.len, hpl]
  have t := t.more he15
  have s14 : w.heap.size ≤ w15.heap.size := t.ext.size
  have hrlt : r < w14.heap.size := by
    have := t.c.row.lt
    rename_i t0
    exact t0.c.row.lt
  refine loopW_i (fun y w' => ∃ i : Nat, i ≤ 4 ∧ y = ((i : Int), ()) ∧ Tri w w' b r b2 r2 b3 r3 q3 (lsN i) [1, 1, 1, 0, 0, 0, 0, 0] ∧ Owni strE 9 w' w14.heap.size A 1 c (pagesL (lsN 0) (perOf 128))) (fun y => (4 - y.1).toNat) ⟨0, by omega, rfl, t, hp⟩ ?_
  rintro _ w16 ⟨i, hi, rfl, t, hp⟩
  dsimp only
  have hlen : ∀ i, i ≤ 4 → (lsN i).length = 8 := fun i hi => by simp [lsN]; omega
  by_cases hlt : i < 4
  · refine splitW_t (decide_eq_true (by omega)) ?_
    refine callW_of (take_calls t.c (t.held (by rw [hlen i hi]; rfl))) ?_
    rintro _ w17 ⟨rfl, hc, hg⟩
    refine ⟨((takeN (lsN i) [1, 1, 1, 0, 0, 0, 0, 0] : Nat), takeE (lsN i) [1, 1, 1, 0, 0, 0, 0, 0], ()), rfl, ?_⟩
    rw [lsN_step i hlt] at hc
    rw [wrap_i64 (by omega) (by omega)]
    exact ⟨⟨i + 1, by omega, rfl, t.upc hc hg, hp.grown hg (fun j hj hjj => by injection hj with hj; have := hp.row j hjj; omega)⟩, by omega⟩
  obtain rfl : i = 4 := by omega
  refine splitW_f (decide_eq_false (by omega)) ?_
  clear hlt hi
  refine callW_of (take_calls t.c (t.held rfl)) ?_
  rintro _ w17 ⟨rfl, hc17, hg17⟩
  refine ⟨(0, 9, ()), rfl, ?_⟩
  have hp := hp.grown hg17 (fun j hj hjj => by injection hj with hj; have := hp.row j hjj; omega)
  have t : Tri w w17 b r b2 r2 b3 r3 q3 (lsN 4) [1, 1, 1, 0, 0, 0, 0, 0] := t.upc hc17 hg17
  refine callW_of (small_calls w17) ?_
  rintro _ w18 ⟨rfl, he18⟩
  refine ⟨(128, 8, ()), rfl, ?_⟩
  have t := t.more he18
  have hp := hp.ext he18
  dsimp only
  apply newW_i
  have hx := (Ext.refl w18).alloc (.cells #[(.string pgA)] 9)
  have hpa := one_sli (Blk.new w18 #[(.string pgA)] 9)
  have t := t.more hx
  have hp := hp.ext hx
  show (callW _ _ _ _ _) (w18.alloc (.cells #[(.string pgA)] 9))
  generalize w18.alloc (.cells #[(.string pgA)] 9) = w19 at hpa t hp ⊢
  refine callW_of (load_calls (size := 128) (blocks := 8) (c := 1) hpa) ?_
  rintro _ w20 ⟨x, rfl, hx, he20⟩
  have e1 : loadE 128 8 [pgA] = 0 := by kernel_rfl
  rw [e1] at hx ⊢
  rw [if_pos rfl] at hx
  obtain ⟨b5, r5, rfl, hc5, _, _⟩ := hx
  refine ⟨(some ⟨b5, 0, none⟩, 0, ()), rfl, ?_⟩
  have t := t.more he20
  have hp := hp.ext he20
  refine splitW_f (by rfl) (splitW_f (by rfl) ?_)
  refine callW_of (small_calls w20) ?_
  rintro _ w21 ⟨rfl, he21⟩
  refine ⟨(128, 8, ()), rfl, ?_⟩
  have t := t.more he21
  have hp := hp.ext he21
  have hc5 := hc5.ext he21
  dsimp only
  apply newW_i
  have hx := (Ext.refl w21).alloc (.cells #[(.string pgB)] 9)
  have hpb := one_sli (Blk.new w21 #[(.string pgB)] 9)
  have t := t.more hx
  have hp := hp.ext hx
  have hc5 := hc5.ext hx
  show (callW _ _ _ _ _) (w21.alloc (.cells #[(.string pgB)] 9))
  generalize w21.alloc (.cells #[(.string pgB)] 9) = w22 at hpb t hp hc5 ⊢
  refine callW_of (load_calls (size := 128) (blocks := 8) (c := 1) hpb) ?_
  rintro _ w23 ⟨x2, rfl, hx2, he23⟩
  have e2 : loadE 128 8 [pgB] = 4 := by kernel_rfl
  rw [e2]
  refine ⟨(x2, 4, ()), rfl, ?_⟩
  have t := t.more he23
  have hp := hp.ext he23
  have hc5 := hc5.ext he23
  refine callW_of (small_calls w23) ?_
  rintro _ w24 ⟨rfl, he24⟩
  refine ⟨(128, 8, ()), rfl, ?_⟩
  have t := t.more he24
  have hp := hp.ext he24
  have hc5 := hc5.ext he24
  refine callW_of (load_calls (size := 128) (blocks := 8) (c := 0) (Sli.nil w24 none (E := strE))) ?_
  rintro _ w25 ⟨x3, rfl, hx3, he25⟩
  have e3 : loadE 128 8 [] = 4 := by kernel_rfl
  rw [e3]
  refine ⟨(x3, 4, ()), rfl, ?_⟩
  have t := t.more he25
  have hp := hp.ext he25
  have hc5 := hc5.ext he25
  refine callW_of (takenil_calls w25 none) ?_
  rintro _ w25 ⟨rfl, hw⟩
  subst hw
  refine ⟨(0, 1, ()), rfl, ?_⟩
  dsimp only
  refine joinW_s (fun (y : Bool × Unit) w' => y.1 = true ∧ Ext w w') ?_ (fun J hJ => ?_)
  · rintro ⟨y, _⟩ w' ⟨rfl, he⟩
    exact ⟨rfl, he⟩
  iterate 9 refine splitW_t (by rfl) ?_
  refine idx_str hp.sl (by omega) (by omega) ?_
  refine splitW_t (by rw [str_beq]; exact decide_eq_true (by kernel_rfl)) ?_
  refine splitW_t (by rfl) ?_
  have getc : ∀ (n : Nat), n < 4294967296 → Calls Try.prog 14 #[.pointer (some ⟨b5, 0, none⟩), .int .u32 (n : Int)] w25 (Ret fun v w' => v = .int .i64 (((loadL [pgA]).getD n 0 : Nat) : Int) ∧ w' = w25) := fun n hn => get_calls hc5 n hn
  refine callW_of (getc 3 (by omega)) ?_
  rintro _ _ ⟨rfl, rfl⟩
  refine ⟨(2 : Int), by kernel_rfl, splitW_t (by rfl) ?_⟩
  refine callW_of (getc 7 (by omega)) ?_
  rintro _ _ ⟨rfl, rfl⟩
  refine ⟨(256 : Int), by kernel_rfl, splitW_t (by rfl) ?_⟩
  refine callW_of (used_calls hc5) ?_
  rintro _ _ ⟨rfl, rfl⟩
  refine ⟨(4 : Int), by kernel_rfl, splitW_t (by rfl) (splitW_t (by rfl) (splitW_t (by rfl) ?_))⟩
  refine callW_of (used_calls t.c) ?_
  rintro _ _ ⟨rfl, rfl⟩
  refine ⟨(7 : Int), by kernel_rfl, splitW_t (by rfl) ?_⟩
  refine callW_of (get_calls t.c 2 (by omega)) ?_
  rintro _ _ ⟨rfl, rfl⟩
  refine ⟨(0 : Int), by kernel_rfl, splitW_t (by rfl) ?_⟩
  refine callW_of (get_calls t.c 99 (by omega)) ?_
  rintro _ _ ⟨rfl, rfl⟩
  refine ⟨(0 : Int), by kernel_rfl, splitW_t (by rfl) ?_⟩
  refine callW_of (get_calls t.c 0 (by omega)) ?_
  rintro _ _ ⟨rfl, rfl⟩
  refine ⟨(1 : Int), by kernel_rfl, splitW_t (by rfl) (splitW_t (by rfl) ?_)⟩
  refine callW_of (usednil_calls _) ?_
  rintro _ _ ⟨rfl, rfl⟩
  refine ⟨(0 : Int), rfl, splitW_t (by rfl) ?_⟩
  refine callW_of (addnil_calls _ 2) ?_
  rintro _ _ ⟨rfl, rfl⟩
  refine ⟨(1 : Int), rfl, splitW_t (by rfl) ?_⟩
  refine callW_of (clonenil_calls _) ?_
  rintro _ _ ⟨rfl, rfl⟩
  exact ⟨none, rfl, hJ _ _ ⟨rfl, t.ext⟩⟩
end Go.Proofs.Ytmogbadaoaikcaa.V
