/- Contracts of the document's answer (16): sign, Compare, Rows, key, Key, digits, Text. -/
import Derived.Test.YtlpniinmomhkcaaDoorLT
set_option linter.unusedVariables false
set_option linter.unusedSimpArgs false
namespace Go.Proofs.YtlpniinmomhkcaaDoor.V
open Go Go.Proofs Go.RowKit

theorem sign_calls (w : World) (x y : Bool) : Calls Tryd.prog 48 #[.bool x, .bool y] w (Ret fun v w' => v = .int .i64 (if x then -1 else if y then 1 else 0) ∧ w' = w) := by
  apply calls48
  unfold S48
  refine splitW_i (fun h => ?_) (fun h => splitW_i (fun h2 => ?_) (fun h2 => ?_))
  · subst h; exact ⟨rfl, rfl⟩
  · subst h; subst h2; exact ⟨rfl, rfl⟩
  · subst h; subst h2; exact ⟨rfl, rfl⟩
theorem less_iff' : ∀ a b : List UInt8, Op.bytesLess a b = decide (cmpL a b = -1)
  | [], [] => rfl
  | _ :: _, [] => rfl
  | [], _ :: _ => rfl
  | a :: x, b :: y => by
    rw [Op.bytesLess, cmpL, less_iff' x y]
    by_cases h : a < b
    · have h' : a.toNat < b.toNat := h
      rw [if_pos h', decide_eq_true h]; rfl
    · have h' : ¬ a.toNat < b.toNat := h
      rw [if_neg h', decide_eq_false h, Bool.false_or]
      by_cases h2 : b.toNat < a.toNat
      · rw [if_pos h2, show (a == b) = false from beq_eq_false_iff_ne.2 (by rintro rfl; omega)]; rfl
      · rw [if_neg h2, show (a == b) = true from beq_iff_eq.2 (UInt8.toNat_inj.1 (by omega)), Bool.true_and]
theorem beq_iff' (a b : List UInt8) : (a == b) = decide (cmpL a b = 0) := by
  apply Bool.eq_iff_iff.2
  rw [beq_iff_eq, decide_eq_true_iff]
  exact ⟨fun h => by rw [h, cmpL_self], cmpL_zero⟩
theorem sign_L (a b : List UInt8) : (if Op.bytesLess a b then (-1 : Int) else if (!(Op.bytesLess a b || (a == b))) then 1 else 0) = cmpL a b := by
  rw [less_iff', beq_iff']
  rcases cmpL_range a b with h | h | h <;> rw [h] <;> decide
theorem rcmp_calls (w : World) (a b : Cell) : Calls Tryd.prog 30 #[.agg #[.int .i64 a.1, .int .i64 a.2.1, .string a.2.2], .agg #[.int .i64 b.1, .int .i64 b.2.1, .string b.2.2]] w (Ret fun v w' => v = .int .i64 (cmpC a b) ∧ Ext w w') := by
  apply calls30
  unfold S30
  refine new_i fun r1 w1 hb1 he1 _ _ => ?_
  refine new_i fun r2 w2 hb2 he2 _ _ => ?_
  have hb1 : Blk w2 r1 (cellE.f a) 23 := hb1.ext he2
  have hb2 : Blk w2 r2 (cellE.f b) 23 := hb2
  have hx2 := he1.trans he2
  refine box0 (l := .int .i64) a.1 hb1 (by rfl) (box0 (l := .int .i64) b.1 hb2 (by rfl) ?_)
  unfold cmpC
  refine splitW_i (fun h => ?_) (fun h => ?_)
  · have h := bne_iff_ne.1 h
    refine box0 (l := .int .i64) a.1 hb1 (by rfl) (box0 (l := .int .i64) b.1 hb2 (by rfl) ?_)
    refine callW_of (sign_calls w2 _ _) ?_
    rintro _ w3 ⟨rfl, hw⟩
    subst hw
    refine ⟨_, rfl, ?_, hx2⟩
    unfold orI
    rw [if_neg (cmpI_ne h)]
    unfold cmpI
    by_cases hl : a.1 < b.1
    · rw [decide_eq_true hl, if_pos rfl, if_pos hl]
    · rw [decide_eq_false hl, if_neg (by simp), if_pos rfl, if_neg hl, if_pos (by omega)]
  have h := bne_eq_false_iff_eq.1 h
  rw [h, cmpI_self, orI_z]
  refine boxF (l := .int .i64) 1 a.2.1 hb1 (by rfl) (boxF (l := .int .i64) 1 b.2.1 hb2 (by rfl) ?_)
  refine splitW_i (fun h => ?_) (fun h => ?_)
  · have h := bne_iff_ne.1 h
    refine boxF (l := .int .i64) 1 a.2.1 hb1 (by rfl) (boxF (l := .int .i64) 1 b.2.1 hb2 (by rfl) ?_)
    refine callW_of (sign_calls w2 _ _) ?_
    rintro _ w3 ⟨rfl, hw⟩
    subst hw
    refine ⟨_, rfl, ?_, hx2⟩
    unfold orI
    rw [if_neg (cmpI_ne h)]
    unfold cmpI
    by_cases hl : a.2.1 < b.2.1
    · rw [decide_eq_true hl, if_pos rfl, if_pos hl]
    · rw [decide_eq_false hl, if_neg (by simp), if_pos rfl, if_neg hl, if_pos (by omega)]
  have h := bne_eq_false_iff_eq.1 h
  rw [h, cmpI_self, orI_z]
  refine boxF (l := .str) 2 a.2.2 hb1 (by rfl) (boxF (l := .str) 2 b.2.2 hb2 (by rfl) (boxF (l := .str) 2 a.2.2 hb1 (by rfl) (boxF (l := .str) 2 b.2.2 hb2 (by rfl) ?_)))
  refine callW_of (sign_calls w2 _ _) ?_
  rintro _ w3 ⟨rfl, hw⟩
  subst hw
  refine ⟨_, rfl, ?_, hx2⟩
  rw [ByteArray.toList_eq, ByteArray.toList_eq]
  rw [sign_L]
  rfl
theorem cmpR_end : ∀ {a b : List Cell}, (a = [] ∨ b = []) → cmpR a b = if a.length < b.length then -1 else if b.length < a.length then 1 else 0
  | [], [], _ => rfl
  | [], _ :: _, _ => by rw [cmpR, if_pos (by simp)]
  | _ :: _, [], _ => by rw [cmpR, if_neg (by simp), if_pos (by simp)]
  | _ :: _, _ :: _, h => by rcases h with h | h <;> cases h
theorem rrows_calls {w : World} {A1 A2 : Option Addr} {n1 n2 c1 c2 : Nat} {a b : List Cell} (ha : Sli cellE w A1 n1 a) (hb : Sli cellE w A2 n2 b) :
    Calls Tryd.prog 31 #[.slice A1 n1 c1, .slice A2 n2 c2] w (Ret fun v w' => v = .int .i64 (cmpR a b) ∧ Ext w w') := by
  apply calls31
  unfold S31
  have hla := ha.len
  have hlb := hb.len
  have hle := ha.le
  have hle2 := hb.le
  refine loopW_i (fun y w' => ∃ i : Nat, i ≤ n1 ∧ i ≤ n2 ∧ y = ((i : Int), ()) ∧ Ext w w' ∧ ∀ j, j < i → cmpC (a.getD j cell0) (b.getD j cell0) = 0) (fun y => (n1 - y.1).toNat) ⟨0, by omega, by omega, rfl, Ext.refl w, fun j hj => by omega⟩ ?_
  rintro _ w1 ⟨i, hi1, hi2, rfl, he1, hz⟩
  dsimp only
  have hdrop := cmpR_drop hz (by omega) (by omega)
  have fin : (n1 ≤ i ∨ n2 ≤ i) → cmpR a b = if decide (((n1 : Nat) : Int) < ((n2 : Nat) : Int)) then -1 else if decide (((n1 : Nat) : Int) > ((n2 : Nat) : Int)) then 1 else 0 := by
    intro h
    rw [hdrop, cmpR_end (by rcases h with h | h; exact .inl (List.drop_of_length_le (by omega)); exact .inr (List.drop_of_length_le (by omega))), List.length_drop, List.length_drop, hla, hlb]
    by_cases h1 : n1 < n2
    · rw [if_pos (show n1 - i < n2 - i by omega), show decide (((n1 : Nat) : Int) < ((n2 : Nat) : Int)) = true from decide_eq_true (by omega), if_pos rfl]
    · rw [if_neg (show ¬ n1 - i < n2 - i by omega), show decide (((n1 : Nat) : Int) < ((n2 : Nat) : Int)) = false from decide_eq_false (by omega)]
      by_cases h2 : n2 < n1
      · rw [if_pos (show n2 - i < n1 - i by omega), show decide (((n1 : Nat) : Int) > ((n2 : Nat) : Int)) = true from decide_eq_true (by omega)]; rfl
      · rw [if_neg (show ¬ n2 - i < n1 - i by omega), show decide (((n1 : Nat) : Int) > ((n2 : Nat) : Int)) = false from decide_eq_false (by omega)]; rfl
  by_cases h1 : i < n1
  · refine splitW_t (decide_eq_true (by omega)) ?_
    by_cases h2 : i < n2
    · refine splitW_t (decide_eq_true (by omega)) ?_
      refine draw_i fun w2 he2 _ _ => ?_
      have hx2 := he1.trans he2
      refine idx_A (ls := [.int .i64, .int .i64, .str]) cT cell0 (ha.ext hx2) (fun _ => rfl) rfl (by omega) (by omega) ?_
      refine idx_A (ls := [.int .i64, .int .i64, .str]) cT cell0 (hb.ext hx2) (fun _ => rfl) rfl (by omega) (by omega) ?_
      rw [Int.toNat_natCast]
      have ea : a.drop i = a.getD i cell0 :: a.drop (i + 1) := by rw [List.getD_eq_getElem?_getD, List.getElem?_eq_getElem (by omega), Option.getD_some, ← List.drop_eq_getElem_cons (by omega)]
      have eb : b.drop i = b.getD i cell0 :: b.drop (i + 1) := by rw [List.getD_eq_getElem?_getD, List.getElem?_eq_getElem (by omega), Option.getD_some, ← List.drop_eq_getElem_cons (by omega)]
      generalize hca : a.getD i cell0 = ca at ea
      generalize hcb : b.getD i cell0 = cb at eb
      refine callW_of (rcmp_calls w2 ca cb) ?_
      rintro _ w3 ⟨rfl, he3⟩
      have hx3 := hx2.trans he3
      have hc : cmpR a b = orI (cmpC ca cb) (cmpR (a.drop (i + 1)) (b.drop (i + 1))) := by rw [hdrop, ea, eb]; rfl
      refine ⟨_, rfl, splitW_i (fun hne => ?_) (fun hne => ?_)⟩
      · refine ⟨?_, hx3⟩
        rw [hc]
        unfold orI
        rw [if_neg (bne_iff_ne.1 hne)]
      · have hne := bne_eq_false_iff_eq.1 hne
        rw [wrap_i64 (by omega) (by omega)]
        refine ⟨⟨i + 1, h1, h2, rfl, hx3, fun j hj => ?_⟩, by omega⟩
        by_cases hji : j = i
        · subst hji; rw [hca, hcb]; exact hne
        · exact hz j (by omega)
    · refine splitW_f (decide_eq_false (by omega)) ?_
      refine callW_of (sign_calls w1 _ _) ?_
      rintro _ w3 ⟨rfl, hw⟩
      subst hw
      exact ⟨_, rfl, by rw [fin (by omega)], he1⟩
  · refine splitW_f (decide_eq_false (by omega)) ?_
    refine callW_of (sign_calls w1 _ _) ?_
    rintro _ w3 ⟨rfl, hw⟩
    subst hw
    exact ⟨_, rfl, by rw [fin (by omega)], he1⟩
theorem rkey_calls (w : World) {x : Cell} (hx : cellOK x = true) (qx : cellQ x) : Calls Tryd.prog 49 #[.agg #[.int .i64 x.1, .int .i64 x.2.1, .string x.2.2]] w (Ret fun v w' => v = .string (mkB (keyC x)) ∧ Ext w w') := by
  apply calls49
  unfold S49
  refine new_i fun r1 w1 hb1 he1 hr1 hs1 => ?_
  have hb1 : Blk w1 r1 (cellE.f x) 23 := hb1
  have hk0 : 0 ≤ x.1 ∧ x.1 < 256 := by rcases cellOK_kind hx with k | k | k | k <;> omega
  have ek : IntKind.wrap .u8 x.1 = ((UInt8.ofNat x.1.toNat).toNat : Int) := by rw [← wrap_u8_nat]; congr 1; omega
  refine box0 (l := .int .i64) x.1 hb1 (by rfl) ?_
  rw [ek]
  refine new_i fun r3 w2 hb3 he2 hr3 hs3 => ?_
  have hx2 := he1.trans he2
  have hb2 := hb1.ext he2
  have ho2 : Own 5 w2 r3 (some ⟨r3, 0, none⟩) 1 1 (bV [UInt8.ofNat x.1.toNat]) := own_of_blk (vs := bV [UInt8.ofNat x.1.toNat]) hb3 rfl (by omega) (by omega)
  have keep : ∀ {w3 w4 : World} {A3 A4 : Option Addr} {m c : Nat} {vs : List Value}, Own 5 w3 r3 A3 m c vs → Grew w3 w4 (orow A3) (orow A4) → Ext w w3 → Blk w3 r1 (cellE.f x) 23 → Ext w w4 ∧ Blk w4 r1 (cellE.f x) 23 := by
    intro w3 w4 A3 A4 m c vs ho hg he hb
    exact ⟨he.grown hg.grown (fun j hj => by have := Own.row' ho j hj; omega), Blk.grown hb hg.grown (by intro e; have := Own.row' ho _ e.symm; omega)⟩
  refine box0 (l := .int .i64) x.1 hb2 (by rfl) ?_
  rcases cellOK_kind hx with k | k | k | k
  · rw [k]
    refine splitW_f (by rfl) (splitW_f (by rfl) (splitW_f (by rfl) ?_))
    refine conv_str (e := 5) (by kernel_rfl) (by kernel_rfl) (by kernel_rfl) ho2.sl ?_
    refine ⟨?_, hx2⟩
    have : keyC x = [UInt8.ofNat x.1.toNat] := by unfold keyC; rw [k]; rfl
    rw [this, k]
    rfl
  · rw [k]
    refine splitW_t (by rfl) ?_
    refine boxF (l := .int .i64) 1 x.2.1 hb2 (by rfl) ?_
    have eb : IntKind.wrap .u64 (IntKind.wrap .u64 x.2.1 + 9223372036854775808) = (bias x.2.1 : Int) := by
      have h1 := qx.2.1.1
      have h2 := qx.2.1.2
      rw [wrap_u64, wrap_u64]
      unfold bias
      omega
    rw [eb]
    have hbl := bias_lt qx.2.1.1 qx.2.1.2
    have hkey : keyC x = UInt8.ofNat x.1.toNat :: be 8 (bias x.2.1) := by unfold keyC; rw [if_pos k]
    generalize bias x.2.1 = v at hbl hkey ⊢
    refine loopW_i (fun y w' => ∃ (A' : Option Addr) (c' i : Nat), i ≤ 8 ∧ y = ((A', 1 + i, c'), (7 : Int) - (i : Int), ()) ∧ Own 5 w' r3 A' (1 + i) c' (bV ([UInt8.ofNat x.1.toNat] ++ (be 8 v).take i)) ∧ Ext w w' ∧ Blk w' r1 (cellE.f x) 23) (fun y => (y.2.1 + 1).toNat)
      ⟨_, 1, 0, by omega, rfl, by simpa using ho2, hx2, hb2⟩ ?_
    rintro _ w3 ⟨A3, c3, i, hi, rfl, ho, he, hb⟩
    dsimp only
    have hB3 : r3 ≤ w3.heap.size := by have := Blk.lt hb; have := he.size; rcases Nat.lt_or_ge r3 w3.heap.size with h | h; omega; exact absurd (Own.addr ho (by omega)) (by rintro ⟨b, e, hb'⟩; subst e; have := Own.lt ho b rfl; omega)
    by_cases hlt8 : i < 8
    · refine splitW_t (decide_eq_true (by omega)) ?_
      have e1 : IntKind.wrap .u64 (IntKind.wrap .i64 ((8 : Int) * ((7 : Int) - (i : Int)))) = ((8 * (7 - i) : Nat) : Int) := by rw [wrap_i64 (by omega) (by omega), wrap_u64]; omega
      rw [e1]
      refine ⟨by omega, ?_⟩
      rw [ishr_nat .u64 v (8 * (7 - i)) (by simp [IntKind.bits]; omega), wrap_u8_nat, Nat.pow_mul, show (2 : Nat) ^ 8 = 256 from rfl]
      refine app_bytes [UInt8.ofNat (v / 256 ^ (7 - i))] ho hB3 (bV1 _) rfl (by omega) ?_
      intro A4 c4 w4 ho4 hg4
      obtain ⟨k1, k2⟩ := keep ho hg4 he hb
      refine ⟨⟨A4, c4, i + 1, by omega, ?_, ?_, k1, k2⟩, ?_⟩
      · rw [wrap_i64 (by omega) (by omega)]
        congr 2
        omega
      · rw [take_snoc (be_get hlt8), ← List.append_assoc]
        exact ho4
      · rw [wrap_i64 (by omega) (by omega)]; omega
    · obtain rfl : i = 8 := by omega
      refine splitW_f (decide_eq_false (by omega)) ?_
      refine conv_str (e := 5) (by kernel_rfl) (by kernel_rfl) (by kernel_rfl) ho.sl ?_
      refine ⟨?_, he⟩
      rw [List.take_of_length_le (by rw [be_length]; omega), List.singleton_append, ← hkey]
      rfl
  · rw [k]
    refine splitW_f (by rfl) (splitW_t (by rfl) ?_)
    refine boxF (l := .int .i64) 1 x.2.1 hb2 (by rfl) ?_
    have hz := (ok2 hx k).2
    have ez : IntKind.wrap .u8 x.2.1 = ((UInt8.ofNat x.2.1.toNat).toNat : Int) := by rw [← wrap_u8_nat]; congr 1; omega
    rw [ez]
    refine app_bytes [UInt8.ofNat x.2.1.toNat] ho2 (by omega) (bV1 _) rfl (by omega) ?_
    intro A3 c3 w3 ho3 hg3
    obtain ⟨k1, k2⟩ := keep ho2 hg3 hx2 hb2
    refine conv_str (e := 5) (by kernel_rfl) (by kernel_rfl) (by kernel_rfl) ho3.sl ?_
    refine ⟨?_, k1⟩
    have : keyC x = [UInt8.ofNat x.1.toNat] ++ [UInt8.ofNat x.2.1.toNat] := by unfold keyC; rw [k]; rfl
    rw [this]
    rfl
  · rw [k]
    refine splitW_f (by rfl) (splitW_f (by rfl) (splitW_t (by rfl) ?_))
    have hlen := (ok3 hx k).2
    have hsz := B_size x.2.2
    have hkey : keyC x = [UInt8.ofNat x.1.toNat] ++ (esc (B x.2.2) ++ [0, 0]) := by unfold keyC; rw [k]; rfl
    refine loopW_i (fun y w' => ∃ (A' : Option Addr) (c' m i : Nat), i ≤ x.2.2.size ∧ y = ((A', m, c'), (i : Int), ()) ∧ m ≤ 1 + 2 * i ∧ 1 ≤ m ∧ Own 5 w' r3 A' m c' (bV ([UInt8.ofNat x.1.toNat] ++ esc ((B x.2.2).take i))) ∧ Ext w w' ∧ Blk w' r1 (cellE.f x) 23) (fun y => (x.2.2.size - y.2.1).toNat)
      ⟨_, 1, 1, 0, by omega, rfl, by omega, by omega, by simpa [esc] using ho2, hx2, hb2⟩ ?_
    rintro _ w3 ⟨A3, c3, m, i, hi, rfl, hm, hm1, ho, he, hb⟩
    dsimp only
    have hB3 : r3 ≤ w3.heap.size := by obtain ⟨b, e, hb'⟩ := Own.addr ho (by omega); subst e; have := Own.lt ho b rfl; omega
    refine boxF (l := .str) 2 x.2.2 hb (by rfl) ?_
    by_cases hlts : i < x.2.2.size
    · refine splitW_t (decide_eq_true (by omega)) ?_
      refine boxF (l := .str) 2 x.2.2 hb (by rfl) ?_
      refine ⟨⟨by omega, by omega⟩, ?_⟩
      have hbt : bt x.2.2 (i : Int) = (((B x.2.2).getD i 0).toNat : Int) := by rw [bt_eq (by omega) (by omega), Int.toNat_natCast]
      rw [hbt]
      have hget : (B x.2.2)[i]? = some ((B x.2.2).getD i 0) := by rw [List.getD_eq_getElem?_getD, List.getElem?_eq_getElem (by omega)]; rfl
      have hesc := esc_snoc ((B x.2.2).take i) ((B x.2.2).getD i 0)
      rw [← take_snoc hget] at hesc
      refine app_bytes [(B x.2.2).getD i 0] ho hB3 (bV1 _) rfl (by omega) ?_
      intro A4 c4 w4 ho4 hg4
      obtain ⟨k1, k2⟩ := keep ho hg4 he hb
      dsimp only
      refine boxF (l := .str) 2 x.2.2 k2 (by rfl) ?_
      refine ⟨⟨by omega, by omega⟩, ?_⟩
      rw [hbt]
      generalize (B x.2.2).getD i 0 = b at hesc ho4 ⊢
      refine splitW_i (fun hb0 => ?_) (fun hb0 => ?_)
      · have hb0 : b = 0 := UInt8.toNat_inj.1 (by simpa using hb0)
        refine app_bytes [255] ho4 (Nat.le_trans hB3 hg4.grown.size) (by rfl) rfl (by omega) ?_
        intro A5 c5 w5 ho5 hg5
        obtain ⟨k3, k4⟩ := keep ho4 hg5 k1 k2
        refine ⟨⟨A5, c5, m + 1 + 1, i + 1, by omega, ?_, by omega, by omega, ?_, k3, k4⟩, ?_⟩
        · rw [wrap_i64 (by omega) (by omega)]; rfl
        · rw [hesc, if_pos hb0, ← List.append_assoc]
          rw [List.append_assoc (_ ++ esc _), hb0] at ho5
          exact ho5
        · rw [wrap_i64 (by omega) (by omega)]; omega
      · have hb0 : b ≠ 0 := by rintro rfl; simp at hb0
        refine ⟨⟨A4, c4, m + 1, i + 1, by omega, ?_, by omega, by omega, ?_, k1, k2⟩, ?_⟩
        · rw [wrap_i64 (by omega) (by omega)]; rfl
        · rw [hesc, if_neg hb0, ← List.append_assoc]
          exact ho4
        · rw [wrap_i64 (by omega) (by omega)]; omega
    · obtain rfl : i = x.2.2.size := by omega
      refine splitW_f (decide_eq_false (by omega)) ?_
      refine app_bytes [0, 0] ho hB3 (by rfl) rfl (by omega) ?_
      intro A4 c4 w4 ho4 hg4
      obtain ⟨k1, k2⟩ := keep ho hg4 he hb
      refine conv_str (e := 5) (by kernel_rfl) (by kernel_rfl) (by kernel_rfl) ho4.sl ?_
      refine ⟨?_, k1⟩
      rw [hsz, List.take_length, List.append_assoc, ← hkey]
      rfl
theorem rvkey_calls {w : World} {A : Option Addr} {n c : Nat} {row : List Cell} (h : Sli cellE w A n row) (q : ∀ c ∈ row, cellQ c) (hn : n ≤ 1000000) :
    Calls Tryd.prog 32 #[.slice A n c] w (Ret fun v w' => v = .string (mkB (if rowOK row then keyR row else [])) ∧ Ext w w') := by
  apply calls32
  unfold S32
  have hl := h.len
  refine loopW_i (fun y w' => ∃ i : Nat, i ≤ n ∧ y = (mkB (keyR (row.take i)), (i : Int), ()) ∧ (keyR (row.take i)).length ≤ 600 * i ∧ Ext w w' ∧ rowOK (row.take i) = true) (fun y => (n - y.2.1).toNat)
    ⟨0, by omega, rfl, by simp [keyR], Ext.refl w, by simp [rowOK]⟩ ?_
  rintro _ w1 ⟨i, hi, rfl, hm, he, hk⟩
  dsimp only
  by_cases hlt : i < n
  · refine splitW_t (decide_eq_true (by omega)) ?_
    refine idx_A (ls := [.int .i64, .int .i64, .str]) cT cell0 (h.ext he) (fun _ => rfl) rfl (by omega) (by omega) ?_
    rw [Int.toNat_natCast]
    have hget : row[i]? = some (row.getD i cell0) := by rw [List.getD_eq_getElem?_getD, List.getElem?_eq_getElem (by omega)]; rfl
    have hmem := List.mem_of_getElem? hget
    have htake := take_snoc hget
    refine callW_of (rvcheck_calls w1 (row.getD i cell0)) ?_
    rintro _ w3 ⟨rfl, he3⟩
    have hx3 := he.trans he3
    refine ⟨_, rfl, splitW_i (fun hne => ?_) (fun hne => ?_)⟩
    · refine ⟨?_, hx3⟩
      have hx : cellOK (row.getD i cell0) = false := by
        unfold cellE' at hne
        split at hne
        · simp at hne
        · rename_i hh; simpa using hh
      have : rowOK row = false := by
        unfold rowOK
        rw [List.all_eq_false]
        exact ⟨_, hmem, by rw [hx]; simp⟩
      rw [this]
      rfl
    · have hx : cellOK (row.getD i cell0) = true := by
        unfold cellE' at hne
        split at hne
        · rename_i hh; exact hh
        · simp at hne
      refine idx_A (ls := [.int .i64, .int .i64, .str]) cT cell0 (h.ext hx3) (fun _ => rfl) rfl (by omega) (by omega) ?_
      rw [Int.toNat_natCast]
      generalize row.getD i cell0 = x at hget hmem htake hx
      refine callW_of (rkey_calls w3 hx (q x hmem)) ?_
      rintro _ w4 ⟨rfl, he4⟩
      have hlk := keyC_len hx
      refine ⟨_, rfl, ⟨?_, ?_⟩⟩
      · rw [mkB_size, mkB_size]
        simp only [IntKind.max]
        show ((_ : Nat) : Int) ≤ 9223372036854775807
        omega
      have hkk : keyR (row.take (i + 1)) = keyR (row.take i) ++ keyC x := by rw [htake]; simp [keyR]
      refine ⟨⟨i + 1, by omega, ?_, ?_, hx3.trans he4, ?_⟩, ?_⟩
      · rw [wrap_i64 (by omega) (by omega), hkk]
        congr 1
      · rw [hkk, List.length_append]; omega
      · rw [htake]
        unfold rowOK at hk ⊢
        rw [List.all_append, hk]
        simp [hx]
      · rw [wrap_i64 (by omega) (by omega)]; omega
  · obtain rfl : i = n := by omega
    refine splitW_f (decide_eq_false (by omega)) ?_
    rw [List.take_of_length_le (by omega)] at hk ⊢
    exact ⟨by rw [hk]; rfl, he⟩
end Go.Proofs.YtlpniinmomhkcaaDoor.V
