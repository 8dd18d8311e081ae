/- Contracts of the package value: quoted, Text. -/
import Derived.Test.YtlpniinmomhkcaaDoorKVal2
import Derived.Lib.AppendIntMem
set_option linter.unusedVariables false
set_option linter.unusedSimpArgs false
namespace Go.Proofs.YtlpniinmomhkcaaDoor.V
open Go Go.Proofs Go.RowKit

def hexL : List UInt8 := [48, 49, 50, 51, 52, 53, 54, 55, 56, 57, 97, 98, 99, 100, 101, 102]
def hexB : ByteArray := ByteArray.mk #[48, 49, 50, 51, 52, 53, 54, 55, 56, 57, 97, 98, 99, 100, 101, 102]
def prn (b : UInt8) : Bool := decide (32 ≤ b.toNat) && (decide (b.toNat ≤ 126) && (b.toNat != 34 && b.toNat != 92))
def qc (b : UInt8) : List UInt8 := if prn b then [b] else [92, 120, hexL.getD (b.toNat / 16) 0, hexL.getD (b.toNat % 16) 0]
def quo (s : List UInt8) : List UInt8 := 34 :: (s.flatMap qc ++ [34])
theorem qc_len (b : UInt8) : (qc b).length ≤ 4 := by unfold qc; split <;> simp
theorem flat_len : ∀ s : List UInt8, (s.flatMap qc).length ≤ 4 * s.length
  | [] => by simp
  | b :: r => by
    have := flat_len r
    have := qc_len b
    simp only [List.flatMap_cons, List.length_append, List.length_cons]
    omega
/-- What a cell is told as. -/
def txt (c : Cell) : List UInt8 := if cellOK c then (if c.1 = 0 then [110, 117, 108, 108] else if c.1 = 1 then Lib.itoa c.2.1 else if c.1 = 2 then (if c.2.1 = 1 then [116, 114, 117, 101] else [102, 97, 108, 115, 101]) else quo (B c.2.2)) else []
theorem shr4 : ∀ x : Fin 256, ishr .u8 (x.val : Int) 4 = ((x.val / 16 : Nat) : Int) := by decide +kernel
theorem and15 : ∀ x : Fin 256, iand .u8 (x.val : Int) 15 = ((x.val % 16 : Nat) : Int) := by decide +kernel
theorem hex_bt {n : Nat} (h : n < 16) : bt hexB (n : Int) = ((hexL.getD n 0).toNat : Int) := by
  rw [bt_eq (by omega) (by show (n : Int) < ((16 : Nat) : Int); omega), Int.toNat_natCast]
  rfl
theorem own_of_blk {e : TypeId} {w : World} {B b n : Nat} {vs : List Value} (h : Blk w b vs e) (hn : vs.length = n) (hm : n ≤ 9223372036854775807) (hB : B ≤ b) : Own e w B (some ⟨b, 0, none⟩) n n vs := by
  refine ⟨by rw [Nat.mul_one, hn], .inr ⟨b, n, vs.toArray, rfl, hB, h, Nat.le_refl _, by simpa [maxLen] using hm, by simp [hn], ?_⟩⟩
  rw [Nat.mul_one, ← hn, List.take_length]
theorem quoted_calls (w : World) (s : ByteArray) (hs : s.size ≤ 1000000) : Calls Tryd.prog 44 #[.string s] w (Ret fun v w' => v = .string (mkB (quo (B s))) ∧ Ext w w') := by
  apply calls44
  unfold S44
  have hsz := B_size s
  refine new_i fun r1 w1 hb1 he1 hr1 hs1 => ?_
  have ho1 : Own 5 w1 w.heap.size (some ⟨r1, 0, none⟩) 1 1 (bV [34]) := by
    exact own_of_blk (vs := bV [34]) hb1 rfl (by omega) (by omega)
  refine conv_bytes (e := 5) (u := .string) (by kernel_rfl) (by kernel_rfl) (by kernel_rfl) (by omega) ?_
  intro c5 w5 hs5 he5 hz5 _
  have ho5 := ho1.ext he5
  refine loopW_i (fun y w' => ∃ (A' : Option Addr) (c' m i : Nat), i ≤ s.size ∧ y = ((A', m, c'), (i : Int), ()) ∧ m ≤ 1 + 4 * i ∧ Own 5 w' w.heap.size A' m c' (bV (34 :: ((B s).take i).flatMap qc)) ∧ Ext w w' ∧ Sl w' (some ⟨w1.heap.size, 0, none⟩) s.size (bV (B s)) ∧ (∀ j, orow A' = some j → j ≠ w1.heap.size)
      ∧ w1.heap.size < w'.heap.size) (fun y => (s.size - y.2.1).toNat)
    ⟨_, 1, 1, 0, by omega, rfl, by omega, by simpa using ho5, he1.trans he5, hs5, fun j hj => by have := Own.lt ho1 j hj; omega, by omega⟩ ?_
  rintro _ w3 ⟨A3, c3, m, i, hi, rfl, hm, ho, he, hs3, hne, hsz3⟩
  dsimp only
  have hB3 : w.heap.size ≤ w3.heap.size := he.size
  by_cases hlts : i < s.size
  · refine splitW_t (decide_eq_true (by omega)) ?_
    refine idx_byte hs3 (by omega) (by omega) ?_
    rw [Int.toNat_natCast]
    have hget : (B s)[i]? = some ((B s).getD i 0) := by rw [List.getD_eq_getElem?_getD, List.getElem?_eq_getElem (by omega)]; rfl
    have htake := take_snoc hget
    generalize (B s).getD i 0 = b at htake
    have hbl := b.toNat_lt
    have hflat : 34 :: ((B s).take (i + 1)).flatMap qc = (34 :: ((B s).take i).flatMap qc) ++ qc b := by rw [htake]; simp
    refine joinW_s (fun (y : (Option Addr × Nat × Nat) × Unit) w' => prn b = false ∧ y = ((A3, m, c3), ()) ∧ w' = w3) ?_ (fun J hJ => ?_)
    · rintro _ w4 ⟨hp, rfl, hw4⟩
      subst hw4
      dsimp only
      have e4 := shr4 ⟨b.toNat, hbl⟩
      have e15 := and15 ⟨b.toNat, hbl⟩
      dsimp only at e4 e15
      have ho4 : Own 5 w4.drew w.heap.size A3 m c3 (bV (34 :: ((B s).take i).flatMap qc)) := ho.ext (Ext.refl w4).drew
      have hs4 : Sl w4.drew (some ⟨w1.heap.size, 0, none⟩) s.size (bV (B s)) := hs3.ext (Ext.refl w4).drew
      show guardW _ _ w4.drew
      rw [e4, e15]
      refine ⟨⟨by omega, by show ((b.toNat / 16 : Nat) : Int) < ((16 : Nat) : Int); omega⟩, ⟨by omega, by show ((b.toNat % 16 : Nat) : Int) < ((16 : Nat) : Int); omega⟩, ?_⟩
      have h1 := hex_bt (n := b.toNat / 16) (by omega)
      have h2 := hex_bt (n := b.toNat % 16) (by omega)
      unfold hexB at h1 h2
      rw [h1, h2]
      have hq : qc b = [92, 120, hexL.getD (b.toNat / 16) 0, hexL.getD (b.toNat % 16) 0] := by unfold qc; rw [hp]; rfl
      refine app_bytes [92, 120, hexL.getD (b.toNat / 16) 0, hexL.getD (b.toNat % 16) 0] ho4 hB3 (by rfl) rfl (by omega) ?_
      intro A4 c4 w5 ho5 hg5
      have hg5' : Grew w4.drew w5 (orow A3) (orow A4) := hg5
      obtain ⟨k1, k2, k3⟩ := sl_kept hs4 hg5' hne hsz3
      refine ⟨⟨A4, c4, m + 4, i + 1, by omega, ?_, by omega, ?_, he.drew.grown hg5.grown ho4.row', k1, k2, k3⟩, ?_⟩
      · rw [wrap_i64 (by omega) (by omega)]; rfl
      · rw [hflat, hq]; exact ho5
      · rw [wrap_i64 (by omega) (by omega)]; omega
    · refine joinW_s (fun (y : Bool × Unit) w' => y.1 = prn b ∧ w' = w3) ?_ (fun J2 hJ2 => ?_)
      · rintro ⟨q, _⟩ w4 ⟨hq, hw4⟩
        subst hw4
        dsimp only at hq ⊢
        subst hq
        refine splitW_i (fun hp => ?_) (fun hp => hJ _ _ ⟨hp, rfl, rfl⟩)
        have hq : qc b = [b] := by unfold qc; rw [hp]; rfl
        refine app_bytes [b] ho hB3 (by rfl) rfl (by omega) ?_
        intro A4 c4 w5 ho5 hg5
        obtain ⟨k1, k2, k3⟩ := sl_kept hs3 hg5 hne hsz3
        refine ⟨⟨A4, c4, m + 1, i + 1, by omega, ?_, by omega, ?_, he.grown hg5.grown ho.row', k1, k2, k3⟩, ?_⟩
        · rw [wrap_i64 (by omega) (by omega)]; rfl
        · rw [hflat, hq]; exact ho5
        · rw [wrap_i64 (by omega) (by omega)]; omega
      · unfold prn at hJ2
        refine splitW_i (fun h1 => ?_) (fun h1 => ?_)
        · have h1 := of_decide_eq_true h1
          refine splitW_i (fun h2 => ?_) (fun h2 => ?_)
          · have h2 := of_decide_eq_true h2
            refine splitW_i (fun h3 => ?_) (fun h3 => ?_)
            · have h3 := bne_iff_ne.1 h3
              refine hJ2 _ _ ⟨?_, rfl⟩
              rw [decide_eq_true (by omega), decide_eq_true (by omega)]
              simp only [Bool.true_and]
              rw [show (b.toNat != 34) = true from bne_iff_ne.2 (by omega), Bool.true_and]
              by_cases h4 : b.toNat = 92
              · rw [h4]; rfl
              · rw [show (b.toNat != 92) = true from bne_iff_ne.2 h4]
                exact bne_iff_ne.2 (by omega)
            · have h3 := bne_eq_false_iff_eq.1 h3
              refine hJ2 _ _ ⟨?_, rfl⟩
              rw [show b.toNat = 34 by omega]
              rfl
          · have h2 := of_decide_eq_false h2
            refine hJ2 _ _ ⟨?_, rfl⟩
            rw [show decide (b.toNat ≤ 126) = false from decide_eq_false (by omega)]
            simp
        · have h1 := of_decide_eq_false h1
          refine hJ2 _ _ ⟨?_, rfl⟩
          rw [show decide (32 ≤ b.toNat) = false from decide_eq_false (by omega)]
          simp
  · obtain rfl : i = s.size := by omega
    refine splitW_f (decide_eq_false (by omega)) ?_
    refine app_bytes [34] ho hB3 (by rfl) rfl (by omega) ?_
    intro A4 c4 w4 ho4 hg4
    refine conv_str (e := 5) (by kernel_rfl) (by kernel_rfl) (by kernel_rfl) ho4.sl ?_
    refine ⟨?_, he.grown hg4.grown ho.row'⟩
    rw [hsz, List.take_length]
    rfl
theorem fmtb_calls (w : World) (b : Bool) : Calls Tryd.prog 58 #[.bool b] w (Ret fun v w' => v = .string (mkB (if b then [116, 114, 117, 101] else [102, 97, 108, 115, 101])) ∧ w' = w) := by
  apply calls58
  unfold S58
  refine splitW_i (fun h => ?_) (fun h => ?_) <;> subst h <;> exact ⟨rfl, rfl⟩
theorem fmtbool_calls (w : World) (b : Bool) : Calls Tryd.prog 43 #[.bool b] w (Ret fun v w' => v = .string (mkB (if b then [116, 114, 117, 101] else [102, 97, 108, 115, 101])) ∧ w' = w) := by
  apply calls43
  unfold S43
  refine callW_of (fmtb_calls w b) ?_
  rintro _ w1 ⟨rfl, rfl⟩
  exact ⟨_, rfl, rfl, rfl⟩
/-- The table of powers of ten, as the library's variable holds it. -/
def Pow (w : World) : Prop := Lib.TabIs Tryd.prog w "internal/strconv.uint64pow10" .u64 Lib.pow10Tab
theorem Pow.ext {w w' : World} (h : Pow w) (he : Ext w w') : Pow w' := by
  unfold Pow Lib.TabIs World.var? at *
  obtain ⟨g, hg, hv⟩ := Option.bind_eq_some_iff.1 h
  rw [hg, Option.bind_some]
  cases hh : w.heap[g]? with
  | none => rw [hh] at hv; cases hv
  | some o => rw [hh] at hv; rw [he.heap hh]; exact hv
theorem fmti_calls {w : World} (hp : Pow w) {n : Int} (h0 : -9223372036854775808 ≤ n) (h1 : n < 9223372036854775808) : Calls Tryd.prog 42 #[.int .i64 n, .int .i64 10] w (Ret fun v w' => v = .string (mkB (Lib.itoa n)) ∧ Ext w w') :=
  (Tryd.strconv_FormatInt_10 n h0 (by omega) w hp).mono (by
    rintro e w' ⟨rfl, k, os, rfl⟩
    exact ⟨rfl, Lib.below_grow w.heap.size w (Nat.le_refl _) k os⟩)
theorem vtext_calls {w : World} (hp : Pow w) {c : Cell} (q : cellQ c) : Calls Tryd.prog 18 #[.agg #[.int .i64 c.1, .int .i64 c.2.1, .string c.2.2]] w (Ret fun v w' => v = .string (mkB (txt c)) ∧ Ext w w') := by
  apply calls18
  unfold S18
  refine new_i fun r w1 hb he _ _ => ?_
  have hb : Blk w1 r (cellE.f c) 23 := hb
  refine boxA (ls := [.int .i64, .int .i64, .str]) (cT c) hb rfl ?_
  refine callW_of (vcheck_calls w1 q) ?_
  rintro _ w2 ⟨rfl, he2⟩
  have hx2 := he.trans he2
  have hb2 := hb.ext he2
  unfold txt cellE'
  by_cases hc : cellOK c = true
  · rw [if_pos hc, if_pos hc]
    refine ⟨0, rfl, splitW_f (by rfl) ?_⟩
    refine box0 (l := .int .i64) c.1 hb2 (by rfl) ?_
    rcases cellOK_kind hc with k | k | k | k
    · rw [k]
      exact splitW_t (by rfl) ⟨rfl, hx2⟩
    · rw [k]
      refine splitW_f (by rfl) (splitW_t (by rfl) ?_)
      refine boxF (l := .int .i64) 1 c.2.1 hb2 (by rfl) ?_
      refine callW_of (fmti_calls (hp.ext hx2) q.2.1.1 q.2.1.2) ?_
      rintro _ w3 ⟨rfl, he3⟩
      exact ⟨_, rfl, rfl, hx2.trans he3⟩
    · rw [k]
      refine splitW_f (by rfl) (splitW_f (by rfl) (splitW_t (by rfl) ?_))
      refine boxF (l := .int .i64) 1 c.2.1 hb2 (by rfl) ?_
      refine callW_of (fmtbool_calls w2 (c.2.1 == 1)) ?_
      rintro _ w3 ⟨rfl, hw⟩
      subst hw
      refine ⟨_, rfl, ?_, hx2⟩
      by_cases h1 : c.2.1 = 1 <;> simp [h1]
    · rw [k]
      refine splitW_f (by rfl) (splitW_f (by rfl) (splitW_f (by rfl) ?_))
      refine boxF (l := .str) 2 c.2.2 hb2 (by rfl) ?_
      have h3 := (ok3 hc k).2
      have hsz := B_size c.2.2
      refine callW_of (quoted_calls w2 c.2.2 (by omega)) ?_
      rintro _ w3 ⟨rfl, he3⟩
      refine ⟨_, rfl, ?_, hx2.trans he3⟩
      rfl
  · rw [if_neg hc, if_neg hc]
    exact ⟨160, rfl, splitW_t (by rfl) ⟨rfl, hx2⟩⟩
theorem lives_calls {w : World} (hp : Pow w) : Calls Tryd.prog 9 #[] w (Ret fun v w' => v = .bool true ∧ Ext w w') := by
  apply calls9
  unfold S9
  refine callW_of (num_calls w (-1)) ?_
  rintro _ w1 ⟨rfl, he1⟩
  refine ⟨(1, -1, ByteArray.empty, ()), rfl, ?_⟩
  refine new_i fun r2 w2 hb2 he2 _ _ => ?_
  have hx2 := he1.trans he2
  refine callW_of (vkey_calls (row := [(1, -1, ByteArray.empty)]) (Sli.of_blk hb2 rfl (by omega)) (by intro c hc; obtain rfl := List.mem_singleton.1 hc; exact ⟨⟨by decide, by decide⟩, ⟨by decide, by decide⟩, by decide⟩) (by omega)) ?_
  rintro _ w3 ⟨rfl, he3⟩
  have hx3 := hx2.trans he3
  refine ⟨_, rfl, ?_⟩
  refine callW_of (num_calls w3 (-1)) ?_
  rintro _ w4 ⟨rfl, he4⟩
  have hx4 := hx3.trans he4
  refine ⟨(1, -1, ByteArray.empty, ()), rfl, ?_⟩
  refine callW_of (vtext_calls (hp.ext hx4) (c := (1, -1, ByteArray.empty)) ⟨⟨by decide, by decide⟩, ⟨by decide, by decide⟩, by decide⟩) ?_
  rintro _ w5 ⟨rfl, he5⟩
  have hx5 := hx4.trans he5
  refine ⟨_, rfl, ?_⟩
  refine splitW_t (by decide +kernel) (splitW_t (by decide +kernel) ?_)
  refine callW_of (str_calls w5 _) ?_
  rintro _ w6 ⟨rfl, he6⟩
  have hx6 := hx5.trans he6
  refine ⟨(3, 0, ByteArray.mk #[97, 0], ()), rfl, ?_⟩
  refine callW_of (vtext_calls (hp.ext hx6) (c := (3, 0, ByteArray.mk #[97, 0])) ⟨⟨by decide, by decide⟩, ⟨by decide, by decide⟩, by decide⟩) ?_
  rintro _ w7 ⟨rfl, he7⟩
  have hx7 := hx6.trans he7
  refine ⟨_, rfl, ?_⟩
  refine splitW_t (by decide +kernel) ?_
  refine callW_of (str_calls w7 _) ?_
  rintro _ w8 ⟨rfl, he8⟩
  have hx8 := hx7.trans he8
  refine ⟨(3, 0, ByteArray.mk #[97, 0], ()), rfl, ?_⟩
  refine new_i fun r9 w9 hb9 he9 _ _ => ?_
  have hx9 := hx8.trans he9
  refine callW_of (vkey_calls (row := [(3, 0, ByteArray.mk #[97, 0])]) (Sli.of_blk hb9 rfl (by omega)) (by intro c hc; obtain rfl := List.mem_singleton.1 hc; exact ⟨⟨by decide, by decide⟩, ⟨by decide, by decide⟩, by decide⟩) (by omega)) ?_
  rintro _ w10 ⟨rfl, he10⟩
  exact ⟨_, rfl, congrArg Value.bool (by decide +kernel), hx9.trans he10⟩
end Go.Proofs.YtlpniinmomhkcaaDoor.V
