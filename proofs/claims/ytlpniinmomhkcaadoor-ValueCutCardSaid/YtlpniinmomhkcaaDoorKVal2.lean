/- Contracts of the package value: key, Key, quoted, Text. -/
import Derived.Test.YtlpniinmomhkcaaDoorKVal
import Derived.Test.YtlpniinmomhkcaaDoorKKit2
import Derived.Test.YtlpniinmomhkcaaDoorStr
set_option linter.unusedVariables false
set_option linter.unusedSimpArgs false
namespace Go.Proofs.YtlpniinmomhkcaaDoor.V
open Go Go.Proofs Go.RowKit

theorem Grew.ext {w w' : World} (h : Ext w w') (row : Option Nat) : Grew w w' row row := ⟨grownBy_of_ext h _, fun _ h => .inl h⟩
theorem Own.lt {e : TypeId} {w : World} {B : Nat} {A : Option Addr} {n c : Nat} {vs : List Value} (h : Own e w B A n c vs) : ∀ j, orow A = some j → j < w.heap.size := fun j hj => (World.ownsRow.lt h j (by rw [orow_eq]; exact hj)).2
/-- append(b, y..): the bytes' own block, then the append. -/
theorem app_bytes {w : World} {B : Nat} {A : Option Addr} {n c m : Nat} {bs : List UInt8} {cs : Array Value} (ys : List UInt8) {K : (Option Addr × Nat × Nat) → WP} (h : Own 5 w B A n c (bV bs)) (hB : B ≤ w.heap.size) (hcs : cs = (bV ys).toArray) (hm : ys.length = m) (hn : n + m ≤ 140737488355328)
    (hK : ∀ A' c' w', Own 5 w' B A' (n + m) c' (bV (bs ++ ys)) → Grew w w' (orow A) (orow A') → K (A', n + m, c') w') :
    (newW (.cells cs 5) fun r => runW Tryd.prog (Builtin.append_ #[57, 57] 57 #[.slice A n c, .slice (some (⟨r, 0, none⟩ : Addr)) m m]) .slc K) w := by
  subst hcs
  have hl : (bV ys).length = m := by rw [length_bV, hm]
  have := append_new (P := Tryd.prog) (t := 57) (e := 5) (ty := 57) (K := K) (ys := bV ys) elem_u8 h hB (bV_one ys) (by rw [hl]; omega) (by omega) (fun A' c' w' ho hg => by
    rw [hl] at ho ⊢
    exact hK A' c' w' (by rw [bV_append]; exact ho) hg)
  rw [hl] at this
  exact this
theorem xor_top {n : Nat} (h : n < 18446744073709551616) : n ^^^ 9223372036854775808 = (9223372036854775808 + n) % 18446744073709551616 := by
  apply Nat.eq_of_testBit_eq
  intro i
  rw [show (18446744073709551616 : Nat) = 2 ^ 64 from rfl, show (9223372036854775808 : Nat) = 2 ^ 63 from rfl, Nat.testBit_xor, Nat.testBit_mod_two_pow, Nat.testBit_two_pow]
  rcases Nat.lt_trichotomy i 63 with h1 | rfl | h1
  · rw [Nat.testBit_two_pow_add_gt h1]; simp [show i < 64 by omega, show 63 ≠ i by omega]
  · rw [Nat.testBit_two_pow_add_eq]; simp
  · have : n.testBit i = false := Nat.testBit_lt_two_pow (Nat.lt_of_lt_of_le h (Nat.pow_le_pow_right (n := 2) (by omega) (show 64 ≤ i by omega)))
    rw [this]; simp [show ¬ i < 64 by omega, show 63 ≠ i by omega]
theorem bias_lt {z : Int} (h0 : -9223372036854775808 ≤ z) (h1 : z < 9223372036854775808) : bias z < 18446744073709551616 := by unfold bias; omega
theorem bias_xor {z : Int} (h0 : -9223372036854775808 ≤ z) (h1 : z < 9223372036854775808) : ixor .u64 (IntKind.wrap .u64 z) 9223372036854775808 = (bias z : Int) := by
  have e : IntKind.wrap .u64 z = ((z % 18446744073709551616).toNat : Int) := by rw [wrap_u64]; omega
  rw [e, show (9223372036854775808 : Int) = ((9223372036854775808 : Nat) : Int) from rfl, ixor_nat (by rfl) (by simp [IntKind.bits]; omega) (by simp [IntKind.bits]), xor_top (by omega)]
  unfold bias
  omega
theorem be_get : ∀ {n v j : Nat}, j < n → (be n v)[j]? = some (UInt8.ofNat (v / 256 ^ (n - 1 - j)))
  | n + 1, v, 0, _ => by rw [be]; simp
  | n + 1, v, j + 1, h => by
    rw [be, List.getElem?_cons_succ, be_get (by omega)]
    congr 4
    omega
theorem esc_snoc : ∀ (l : List UInt8) (b : UInt8), esc (l ++ [b]) = esc l ++ (if b = 0 then [0, 255] else [b])
  | [], b => by
    show esc [b] = esc [] ++ _
    rw [esc, esc]
    split <;> rfl
  | x :: r, b => by
    rw [List.cons_append, esc, esc_snoc r b, esc]
    split <;> simp
theorem esc_length : ∀ l : List UInt8, (esc l).length ≤ 2 * l.length
  | [] => by simp [esc]
  | x :: r => by
    have := esc_length r
    rw [esc]
    split <;> simp <;> omega
theorem u8_of_nat (n : Nat) : Value.int .u8 ((UInt8.ofNat n).toNat : Int) = Value.int .u8 (IntKind.wrap .u8 (n : Int)) := by rw [wrap_u8_nat]
theorem bV1 (b : UInt8) : #[Value.int .u8 (b.toNat : Int)] = (bV [b]).toArray := rfl
theorem keyC_len {c : Cell} (h : cellOK c = true) : (keyC c).length ≤ 600 := by
  unfold keyC
  rcases cellOK_kind h with k | k | k | k <;> rw [k] <;> simp [be_length]
  have := esc_length (B c.2.2)
  have := (ok3 h k).2
  omega
/-- What a put hands back. -/
def Put (B : Nat) (w : World) (A : Option Addr) (bs : List UInt8) (r : Value) (w' : World) : Prop := ∃ y : Option Addr × Nat × Nat, r = .slice y.1 y.2.1 y.2.2 ∧ Own 5 w' B y.1 y.2.1 y.2.2 (bV bs) ∧ Grew w w' (orow A) (orow y.1)
theorem put_ret {B : Nat} {w w' : World} {A A' : Option Addr} {n c : Nat} {bs : List UInt8} (h : Own 5 w' B A' n c (bV bs)) (hg : Grew w w' (orow A) (orow A')) : Put B w A bs (.slice A' n c) w' := ⟨(A', n, c), rfl, h, hg⟩
/-- What another row's append leaves. -/
theorem sl_kept {w w' : World} {b n : Nat} {vs : List Value} {r r' : Option Nat} (hs : Sl w (some ⟨b, 0, none⟩) n vs) (hg : Grew w w' r r') (hne : ∀ j, r = some j → j ≠ b) (hlt : b < w.heap.size) :
    Sl w' (some ⟨b, 0, none⟩) n vs ∧ (∀ j, r' = some j → j ≠ b) ∧ b < w'.heap.size := by
  refine ⟨⟨hs.1, hs.2.1, fun h0 => ?_⟩, fun j hj => ?_, Nat.lt_of_lt_of_le hlt hg.grown.size⟩
  · obtain ⟨a, h1, h2⟩ := hs.2.2 h0
    refine ⟨a, h1, fun j v hj => ?_⟩
    cases h1
    have hc := h2 j v hj
    have hb := hg.grown.block b hlt (fun e => hne b e.symm rfl)
    rw [add_mk] at hc ⊢
    rw [← hc]
    simp only [World.cell?, hb]
  · rcases hg.next j hj with e | e
    · exact hne j e
    · omega
theorem key_calls {w : World} {B0 : Nat} {A : Option Addr} {n c : Nat} {bs : List UInt8} {x : Cell} (h : Own 5 w B0 A n c (bV bs)) (hB : B0 ≤ w.heap.size) (hn : n ≤ 140737488000000) (hx : cellOK x = true) (qx : cellQ x) :
    Calls Tryd.prog 38 #[.slice A n c, .agg #[.int .i64 x.1, .int .i64 x.2.1, .string x.2.2]] w (Ret (Put B0 w A (bs ++ keyC x))) := by
  apply calls38
  unfold S38
  refine new_i fun r1 w1 hb1 he1 hr1 hs1 => ?_
  have hB1 : B0 ≤ w1.heap.size := by omega
  have hlt : ∀ j, orow A = some j → j < w.heap.size := h.lt
  have h1 := h.ext he1
  have hg1 : Grew w w1 (orow A) (orow A) := Grew.ext he1 _
  have hk0 : 0 ≤ x.1 ∧ x.1 < 256 := by rcases cellOK_kind hx with k | k | k | k <;> omega
  have ek : IntKind.wrap .u8 x.1 = ((UInt8.ofNat x.1.toNat).toNat : Int) := by rw [← wrap_u8_nat]; congr 1; omega
  refine box0 (l := .int .i64) x.1 hb1 (by rfl) ?_
  rw [ek]
  refine app_bytes [UInt8.ofNat x.1.toNat] h1 hB1 (bV1 _) rfl (by omega) ?_
  intro A2 c2 w2 ho2 hg2'
  have hg2 := hg1.step hg2'
  have hB2 : B0 ≤ w2.heap.size := Nat.le_trans hB hg2.grown.size
  have hb2 : Blk w2 r1 (cellE.f x) 23 := Blk.grown hb1 hg2'.grown (by intro e; have := hlt _ e.symm; omega)
  have hr2 : ∀ j, orow A2 = some j → j ≠ r1 := by
    intro j hj
    rcases hg2'.next j hj with e | e
    · have := hlt j e; omega
    · omega
  refine box0 (l := .int .i64) x.1 hb2 (by rfl) ?_
  dsimp only
  rcases cellOK_kind hx with k | k | k | k
  · rw [k]
    refine splitW_f (by rfl) (splitW_f (by rfl) (splitW_f (by rfl) ?_))
    refine put_ret ?_ hg2
    have : keyC x = [UInt8.ofNat x.1.toNat] := by unfold keyC; rw [k]; rfl
    rw [this]
    exact ho2
  · rw [k]
    refine splitW_t (by rfl) ?_
    refine boxF (l := .int .i64) 1 x.2.1 hb2 (by rfl) ?_
    rw [bias_xor qx.2.1.1 qx.2.1.2]
    have hbl := bias_lt qx.2.1.1 qx.2.1.2
    have hkey : keyC x = UInt8.ofNat x.1.toNat :: be 8 (bias x.2.1) := by unfold keyC; rw [if_pos k]
    generalize bias x.2.1 = v at hbl hkey ⊢
    refine loopW_i (fun y w' => ∃ (A' : Option Addr) (c' i : Nat), i ≤ 8 ∧ y = ((A', n + 1 + i, c'), (7 : Int) - (i : Int), ()) ∧ Own 5 w' B0 A' (n + 1 + i) c' (bV ((bs ++ [UInt8.ofNat x.1.toNat]) ++ (be 8 v).take i)) ∧ Grew w w' (orow A) (orow A')) (fun y => (y.2.1 + 1).toNat)
      ⟨A2, c2, 0, by omega, rfl, by simpa using ho2, hg2⟩ ?_
    rintro _ w3 ⟨A3, c3, i, hi, rfl, ho, hg⟩
    dsimp only
    have hB3 : B0 ≤ w3.heap.size := Nat.le_trans hB hg.grown.size
    by_cases hlt8 : i < 8
    · refine splitW_t (decide_eq_true (by omega)) ?_
      have e1 : IntKind.wrap .i64 ((8 : Int) * ((7 : Int) - (i : Int))) = ((8 * (7 - i) : Nat) : Int) := by rw [wrap_i64 (by omega) (by omega)]; omega
      rw [e1]
      refine ⟨by omega, ?_⟩
      rw [ishr_nat .u64 v (8 * (7 - i)) (by simp [IntKind.bits]; omega), wrap_u8_nat, Nat.pow_mul, show (2 : Nat) ^ 8 = 256 from rfl]
      refine app_bytes [UInt8.ofNat (v / 256 ^ (7 - i))] ho hB3 (bV1 _) rfl (by omega) ?_
      intro A4 c4 w4 ho4 hg4
      refine ⟨⟨A4, c4, i + 1, by omega, ?_, ?_, hg.step hg4⟩, ?_⟩
      · rw [wrap_i64 (by omega) (by omega)]
        congr 2
        omega
      · rw [take_snoc (be_get hlt8), ← List.append_assoc]
        exact ho4
      · rw [wrap_i64 (by omega) (by omega)]; omega
    · obtain rfl : i = 8 := by omega
      refine splitW_f (decide_eq_false (by omega)) ?_
      refine put_ret ?_ hg
      rw [List.take_of_length_le (by rw [be_length]; omega), List.append_assoc, List.singleton_append, ← hkey] at ho
      exact ho
  · rw [k]
    refine splitW_f (by rfl) (splitW_t (by rfl) ?_)
    refine boxF (l := .int .i64) 1 x.2.1 hb2 (by rfl) ?_
    have hz := (ok2 hx k).2
    have ez : IntKind.wrap .u8 x.2.1 = ((UInt8.ofNat x.2.1.toNat).toNat : Int) := by rw [← wrap_u8_nat]; congr 1; omega
    rw [ez]
    refine app_bytes [UInt8.ofNat x.2.1.toNat] ho2 hB2 (bV1 _) rfl (by omega) ?_
    intro A3 c3 w3 ho3 hg3
    refine put_ret ?_ (hg2.step hg3)
    have : keyC x = [UInt8.ofNat x.1.toNat] ++ [UInt8.ofNat x.2.1.toNat] := by unfold keyC; rw [k]; rfl
    rw [this, ← List.append_assoc]
    exact ho3
  · rw [k]
    refine splitW_f (by rfl) (splitW_f (by rfl) (splitW_t (by rfl) ?_))
    refine boxF (l := .str) 2 x.2.2 hb2 (by rfl) ?_
    have hlen := (ok3 hx k).2
    have hsz := B_size x.2.2
    have hkey : keyC x = [UInt8.ofNat x.1.toNat] ++ (esc (B x.2.2) ++ [0, 0]) := by unfold keyC; rw [k]; rfl
    refine conv_bytes (e := 5) (u := .string) (by kernel_rfl) (by kernel_rfl) (by kernel_rfl) (by omega) ?_
    intro c5 w5 hs5 he5 hz5 _
    have hg5 := hg2.step (Grew.ext he5 (orow A2))
    have ho5 := ho2.ext he5
    have hlt2 := ho2.lt
    refine loopW_i (fun y w' => ∃ (A' : Option Addr) (c' m i : Nat), i ≤ x.2.2.size ∧ y = ((A', m, c'), (i : Int), ()) ∧ m ≤ n + 1 + 2 * i ∧ Own 5 w' B0 A' m c' (bV ((bs ++ [UInt8.ofNat x.1.toNat]) ++ esc ((B x.2.2).take i))) ∧ Grew w w' (orow A) (orow A') ∧ Sl w' (some ⟨w2.heap.size, 0, none⟩) x.2.2.size (bV (B x.2.2)) ∧ (∀ j, orow A' = some j → j ≠ w2.heap.size)
        ∧ w2.heap.size < w'.heap.size) (fun y => (x.2.2.size - y.2.1).toNat)
      ⟨A2, c2, n + 1, 0, by omega, rfl, by omega, by simpa [esc] using ho5, hg5, hs5, fun j hj => by have := hlt2 j hj; omega, by omega⟩ ?_
    rintro _ w3 ⟨A3, c3, m, i, hi, rfl, hm, ho, hg, hs, hne, hsz3⟩
    dsimp only
    have hB3 : B0 ≤ w3.heap.size := Nat.le_trans hB hg.grown.size
    by_cases hlts : i < x.2.2.size
    · refine splitW_t (decide_eq_true (by omega)) ?_
      refine idx_byte hs (by omega) (by omega) ?_
      rw [Int.toNat_natCast]
      have hget : (B x.2.2)[i]? = some ((B x.2.2).getD i 0) := by rw [List.getD_eq_getElem?_getD, List.getElem?_eq_getElem (by omega)]; rfl
      have hesc := esc_snoc ((B x.2.2).take i) ((B x.2.2).getD i 0)
      rw [← take_snoc hget] at hesc
      generalize (B x.2.2).getD i 0 = b at hesc
      refine app_bytes [b] ho hB3 (bV1 _) rfl (by omega) ?_
      intro A4 c4 w4 ho4 hg4
      obtain ⟨hs4, hne4, hz4⟩ := sl_kept hs hg4 hne hsz3
      refine splitW_i (fun hb0 => ?_) (fun hb0 => ?_)
      · have hb0 : b = 0 := UInt8.toNat_inj.1 (by simpa using hb0)
        dsimp only
        refine app_bytes [255] ho4 (Nat.le_trans hB3 hg4.grown.size) (by rfl) rfl (by omega) ?_
        intro A5 c5 w5 ho5 hg5
        refine ⟨⟨A5, c5, m + 1 + 1, i + 1, by omega, ?_, by omega, ?_, (hg.step hg4).step hg5, sl_kept hs4 hg5 hne4 hz4⟩, ?_⟩
        · rw [wrap_i64 (by omega) (by omega)]; rfl
        · rw [hesc, if_pos hb0, ← List.append_assoc]
          rw [List.append_assoc (_ ++ esc _), hb0] at ho5
          exact ho5
        · rw [wrap_i64 (by omega) (by omega)]; omega
      · have hb0 : b ≠ 0 := by rintro rfl; simp at hb0
        refine ⟨⟨A4, c4, m + 1, i + 1, by omega, ?_, by omega, ?_, hg.step hg4, hs4, hne4, hz4⟩, ?_⟩
        · rw [wrap_i64 (by omega) (by omega)]; rfl
        · rw [hesc, if_neg hb0, ← List.append_assoc]
          exact ho4
        · rw [wrap_i64 (by omega) (by omega)]; omega
    · obtain rfl : i = x.2.2.size := by omega
      refine splitW_f (decide_eq_false (by omega)) ?_
      refine app_bytes [0, 0] ho hB3 (by rfl) rfl (by omega) ?_
      intro A4 c4 w4 ho4 hg4
      refine put_ret ?_ (hg.step hg4)
      rw [hsz, List.take_length, List.append_assoc, List.append_assoc, ← hkey] at ho4
      exact ho4
/-- Does no cell err? -/
def rowOK (row : List Cell) : Bool := row.all cellOK
theorem vkey_calls {w : World} {A : Option Addr} {n c : Nat} {row : List Cell} (h : Sli cellE w A n row) (q : ∀ c ∈ row, cellQ c) (hn : n ≤ 1000000) :
    Calls Tryd.prog 13 #[.slice A n c] w (Ret fun v w' => v = .string (mkB (if rowOK row then keyR row else [])) ∧ Ext w w') := by
  apply calls13
  unfold S13
  have hl := h.len
  refine loopW_i (fun y w' => ∃ (A' : Option Addr) (c' m i : Nat), i ≤ n ∧ y = ((A', m, c'), (i : Int), ()) ∧ m ≤ 600 * i ∧ Own 5 w' w.heap.size A' m c' (bV (keyR (row.take i))) ∧ Ext w w' ∧ rowOK (row.take i) = true) (fun y => (n - y.2.1).toNat)
    ⟨none, 0, 0, 0, by omega, rfl, by omega, Own.nil _ _ _, Ext.refl w, by simp [rowOK]⟩ ?_
  rintro _ w1 ⟨A1, c1, m, i, hi, rfl, hm, ho, he, hk⟩
  dsimp only
  by_cases hlt : i < n
  · refine splitW_t (decide_eq_true (by omega)) ?_
    refine idx_A (ls := [.int .i64, .int .i64, .str]) cT cell0 (h.ext he) (fun _ => rfl) rfl (by omega) (by omega) ?_
    rw [Int.toNat_natCast]
    have hget : row[i]? = some (row.getD i cell0) := by rw [List.getD_eq_getElem?_getD, List.getElem?_eq_getElem (by omega)]; rfl
    have hmem := List.mem_of_getElem? hget
    have htake := take_snoc hget
    generalize row.getD i cell0 = x at hget hmem htake
    refine box_i (vs := cellE.f x) (by rfl) (cellE.one x) ?_ (by rfl)
    intro r w2 hb he2 hr
    refine boxA (ls := [.int .i64, .int .i64, .str]) (cT x) hb rfl ?_
    refine callW_of (vcheck_calls w2 (q x hmem)) ?_
    rintro _ w3 ⟨rfl, he3⟩
    refine ⟨_, rfl, splitW_i (fun hne => ?_) (fun hne => ?_)⟩
    · refine ⟨?_, (he.trans he2).trans he3⟩
      have hx : cellOK x = false := by
        unfold cellE' at hne
        split at hne
        · simp at hne
        · rename_i hh; simpa using hh
      have : rowOK row = false := by
        unfold rowOK
        rw [List.all_eq_false]
        exact ⟨x, hmem, by simp [hx]⟩
      rw [this]
      rfl
    · have hx : cellOK x = true := by
        unfold cellE' at hne
        split at hne
        · rename_i hh; exact hh
        · simp at hne
      have hx2 := he2.trans he3
      refine boxA (ls := [.int .i64, .int .i64, .str]) (cT x) (hb.ext he3) rfl ?_
      refine callW_of (key_calls (ho.ext hx2) (Nat.le_trans he.size hx2.size) (by omega) hx (q x hmem)) ?_
      rintro _ w4 ⟨⟨A4, m4, c4⟩, rfl, ho4, hg4⟩
      refine ⟨_, rfl, ?_⟩
      have he4 : Ext w w4 := (he.trans hx2).grown hg4.grown ((ho.ext hx2).row')
      have hl4 := ho4.len
      have hl1 := ho.len
      have hlk := keyC_len hx
      rw [length_bV] at hl4 hl1
      rw [List.length_append] at hl4
      dsimp only at hl4 ⊢
      refine ⟨⟨A4, c4, m4, i + 1, by omega, ?_, by omega, ?_, he4, ?_⟩, ?_⟩
      · rw [wrap_i64 (by omega) (by omega)]; rfl
      · have : keyR (row.take (i + 1)) = keyR (row.take i) ++ keyC x := by rw [htake]; simp [keyR]
        rw [this]
        exact ho4
      · rw [htake]
        unfold rowOK at hk ⊢
        rw [List.all_append, hk]
        simp [hx]
      · rw [wrap_i64 (by omega) (by omega)]; omega
  · obtain rfl : i = n := by omega
    refine splitW_f (decide_eq_false (by omega)) ?_
    rw [List.take_of_length_le (by omega)] at ho hk
    refine conv_str (e := 5) (by kernel_rfl) (by kernel_rfl) (by kernel_rfl) ho.sl ?_
    exact ⟨by rw [hk]; rfl, he⟩
end Go.Proofs.YtlpniinmomhkcaaDoor.V
