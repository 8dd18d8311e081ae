/- Contracts of the document's answer (16): candidate, Read. -/
import Derived.Test.YtlpniinmomhkcaaDoorKR16b
set_option linter.unusedVariables false
set_option linter.unusedSimpArgs false
namespace Go.Proofs.YtlpniinmomhkcaaDoor.V
open Go Go.Proofs Go.RowKit

/-- The document's way to read what stands between quotes: the last byte is left out. -/
def qR : List UInt8 → List UInt8
  | [] => []
  | [_] => []
  | c :: d :: r => if c = 92 ∧ 2 ≤ r.length ∧ 0 ≤ hxi (r.getD 0 0) ∧ 0 ≤ hxi (r.getD 1 0) then UInt8.ofNat (hxi (r.getD 0 0) * 16 + hxi (r.getD 1 0)).toNat :: qR (r.drop 2) else c :: qR (d :: r)
termination_by s => s.length
decreasing_by all_goals (simp; try omega)
theorem qR_1 (c : UInt8) : qR [c] = [] := by rw [qR]
theorem qR_hex {c d : UInt8} {r : List UInt8} (h : c = 92 ∧ 2 ≤ r.length ∧ 0 ≤ hxi (r.getD 0 0) ∧ 0 ≤ hxi (r.getD 1 0)) : qR (c :: d :: r) = UInt8.ofNat (hxi (r.getD 0 0) * 16 + hxi (r.getD 1 0)).toNat :: qR (r.drop 2) := by rw [qR, if_pos h]
theorem qR_one {c d : UInt8} {r : List UInt8} (h : ¬ (c = 92 ∧ 2 ≤ r.length ∧ 0 ≤ hxi (r.getD 0 0) ∧ 0 ≤ hxi (r.getD 1 0))) : qR (c :: d :: r) = c :: qR (d :: r) := by rw [qR, if_neg h]
theorem qR_qc (b x : UInt8) (rest : List UInt8) : qR (qc b ++ x :: rest) = b :: qR (x :: rest) := by
  have hb := b.toNat_lt
  unfold qc
  by_cases h : prn b = true
  · rw [if_pos h, List.singleton_append]
    refine qR_one ?_
    rintro ⟨rfl, _⟩
    revert h
    decide
  · rw [if_neg h]
    have h1 := hxi_hex ⟨b.toNat / 16, by omega⟩
    have h2 := hxi_hex ⟨b.toNat % 16, by omega⟩
    dsimp only at h1 h2
    generalize hexL.getD (b.toNat / 16) 0 = u at h1
    generalize hexL.getD (b.toNat % 16) 0 = v at h2
    show qR (92 :: 120 :: u :: v :: x :: rest) = _
    rw [qR_hex ⟨rfl, by simp, by show 0 ≤ hxi u; omega, by show 0 ≤ hxi v; omega⟩]
    show UInt8.ofNat (hxi u * 16 + hxi v).toNat :: qR (x :: rest) = _
    congr 1
    apply UInt8.toNat_inj.1
    rw [UInt8.toNat_ofNat', h1, h2]
    omega
theorem qR_quo : ∀ t : List UInt8, qR (t.flatMap qc ++ [34]) = t
  | [] => qR_1 34
  | b :: r => by
    have ih := qR_quo r
    rw [List.flatMap_cons, List.append_assoc]
    cases hx : r.flatMap qc ++ [34] with
    | nil => simp at hx
    | cons x rest => rw [qR_qc, ← hx, ih]
theorem drop_two {l : List UInt8} {i : Nat} (h : i + 1 < l.length) : l.drop i = l.getD i 0 :: l.getD (i + 1) 0 :: l.drop (i + 2) := by
  rw [List.drop_eq_getElem_cons (by omega), List.drop_eq_getElem_cons h, List.getD_eq_getElem?_getD, List.getD_eq_getElem?_getD, List.getElem?_eq_getElem (by omega), List.getElem?_eq_getElem h]
  rfl
theorem getD_drop (l : List UInt8) (i j : Nat) : (l.drop i).getD j 0 = l.getD (i + j) 0 := by
  rw [List.getD_eq_getElem?_getD, List.getD_eq_getElem?_getD, List.getElem?_drop]
def qCond (l : List UInt8) (i : Nat) : Prop := l.getD i 0 = 92 ∧ i + 3 < l.length ∧ 0 ≤ hxi (l.getD (i + 2) 0) ∧ 0 ≤ hxi (l.getD (i + 3) 0)
instance (l : List UInt8) (i : Nat) : Decidable (qCond l i) := by unfold qCond; infer_instance
theorem qR_at_hex {l : List UInt8} {i : Nat} (h : qCond l i) : qR (l.drop i) = UInt8.ofNat (hxi (l.getD (i + 2) 0) * 16 + hxi (l.getD (i + 3) 0)).toNat :: qR (l.drop (i + 4)) := by
  obtain ⟨h1, h2, h3, h4⟩ := h
  rw [drop_two (by omega), qR_hex ⟨h1, by rw [List.length_drop]; omega, by rw [getD_drop]; exact h3, by rw [getD_drop]; exact h4⟩, getD_drop, getD_drop, List.drop_drop]
theorem qR_at_one {l : List UInt8} {i : Nat} (hi : i + 1 < l.length) (h : ¬ qCond l i) : qR (l.drop i) = l.getD i 0 :: qR (l.drop (i + 1)) := by
  have e : l.getD (i + 1) 0 :: l.drop (i + 2) = l.drop (i + 1) := by
    rw [List.drop_eq_getElem_cons hi, List.getD_eq_getElem?_getD, List.getElem?_eq_getElem hi]
    rfl
  rw [drop_two hi, qR_one, e]
  · rintro ⟨h1, h2, h3, h4⟩
    rw [List.length_drop] at h2
    rw [getD_drop] at h3 h4
    exact h ⟨h1, by omega, h3, h4⟩
theorem qR_len : ∀ (n : Nat) (s : List UInt8), s.length ≤ n → (qR s).length ≤ s.length
  | _, [], _ => by rw [qR]; omega
  | _, [c], _ => by rw [qR_1]; simp
  | 0, c :: d :: r, h => by simp at h
  | n + 1, c :: d :: r, h => by
    simp only [List.length_cons] at h
    by_cases hc : c = 92 ∧ 2 ≤ r.length ∧ 0 ≤ hxi (r.getD 0 0) ∧ 0 ≤ hxi (r.getD 1 0)
    · rw [qR_hex hc]
      have := qR_len n (r.drop 2) (by simp; omega)
      simp at this ⊢
      omega
    · rw [qR_one hc]
      have := qR_len n (d :: r) (by simp; omega)
      simp at this ⊢
      omega
theorem hexby : ∀ x y : Fin 16, IntKind.wrap .u8 (IntKind.wrap .i64 ((IntKind.wrap .i64 ((16 : Int) * (x.val : Int))) + (y.val : Int))) = (((UInt8.ofNat (x.val * 16 + y.val)).toNat : Nat) : Int) := by decide +kernel
theorem hexby' {h l : Int} (h0 : 0 ≤ h) (h1 : h < 16) (l0 : 0 ≤ l) (l1 : l < 16) : IntKind.wrap .u8 (IntKind.wrap .i64 ((IntKind.wrap .i64 ((16 : Int) * h)) + l)) = ((UInt8.ofNat (h * 16 + l).toNat).toNat : Int) := by
  have := hexby ⟨h.toNat, by omega⟩ ⟨l.toNat, by omega⟩
  dsimp only at this
  rw [show ((h.toNat : Nat) : Int) = h by omega, show ((l.toNat : Nat) : Int) = l by omega, show h.toNat * 16 + l.toNat = (h * 16 + l).toNat by omega] at this
  exact this
/-- A digit more, as the document reads it. -/
def stp (n : Int) (c : UInt8) : Int := IntKind.wrap .u64 ((IntKind.wrap .u64 ((IntKind.wrap .u64 ((10 : Int) * n)) + (IntKind.wrap .u64 (c.toNat : Int)))) - (48 : Int))
def numN (neg : Bool) (l : List UInt8) : Int := (if neg then l.drop 1 else l).foldl stp 0
theorem stp_b (n : Int) (c : UInt8) : 0 ≤ stp n c ∧ stp n c < 18446744073709551616 := by
  unfold stp
  rw [wrap_u64]
  omega
theorem fold_b : ∀ (l : List UInt8) (n : Int), 0 ≤ n → n < 18446744073709551616 → 0 ≤ l.foldl stp n ∧ l.foldl stp n < 18446744073709551616
  | [], n, h, k => ⟨h, k⟩
  | c :: r, n, _, _ => fold_b r (stp n c) (stp_b n c).1 (stp_b n c).2
theorem fold_dec (u : Nat) : u < 18446744073709551616 → (Lib.decDigits u).foldl stp 0 = (u : Int) := by
  induction u using Nat.strongRecOn with
  | ind u ih =>
    intro hu
    by_cases h : u < 10
    · rw [dec_digit h]
      show stp 0 _ = _
      unfold stp
      have e : (UInt8.ofNat (48 + u)).toNat = 48 + u := by rw [UInt8.toNat_ofNat']; omega
      rw [e, wrap_u64, wrap_u64, wrap_u64, wrap_u64]
      omega
    · have e : (UInt8.ofNat (48 + u % 10)).toNat = 48 + u % 10 := by rw [UInt8.toNat_ofNat']; omega
      rw [dec_step h, dec_digit (show u % 10 < 10 by omega), List.foldl_append, ih (u / 10) (by omega) (by omega)]
      show stp _ _ = _
      unfold stp
      rw [e, wrap_u64, wrap_u64, wrap_u64, wrap_u64]
      omega
theorem wrap_b (x : Int) : -9223372036854775808 ≤ IntKind.wrap .i64 x ∧ IntKind.wrap .i64 x < 9223372036854775808 := by
  rw [wrap_i64']
  split <;> omega
theorem head_txt {d : Cell} (hd : cellOK d = true) {s : List UInt8} (h : txt d = s) (hT : s ≠ [116, 114, 117, 101]) (hF : s ≠ [102, 97, 108, 115, 101]) (hN : s ≠ [110, 117, 108, 108]) :
    (d.1 = 1 ∧ s = Lib.itoa d.2.1 ∧ B d.2.2 = []) ∨ (d.1 = 3 ∧ s = quo (B d.2.2) ∧ d.2.1 = 0) := by
  unfold txt at h
  rw [if_pos hd] at h
  rcases cellOK_kind hd with k | k | k | k
  · rw [k, if_pos rfl] at h; exact absurd h.symm hN
  · rw [k, if_neg (by omega), if_pos rfl] at h
    exact .inl ⟨k, h.symm, ok1 hd k⟩
  · rw [k, if_neg (by omega), if_neg (by omega), if_pos rfl] at h
    split at h
    · exact absurd h.symm hT
    · exact absurd h.symm hF
  · rw [k, if_neg (by omega), if_neg (by omega), if_neg (by omega)] at h
    exact .inr ⟨k, h.symm, (ok3 hd k).1⟩
/-- What is known of the document's candidate. -/
def CandOk (s : List UInt8) (c : Cell) : Prop := cellQ c ∧ ∀ d, cellOK d = true → cellQ d → txt d = s → s ≠ [110, 117, 108, 108] → c = d
theorem rcand_calls (w : World) (s : ByteArray) (hs : s.size ≤ 1000000) : Calls Tryd.prog 46 #[.string s] w (Ret fun v w' => (∃ c : Cell, v = .agg #[.int .i64 c.1, .int .i64 c.2.1, .string c.2.2] ∧ CandOk (B s) c) ∧ Ext w w') := by
  apply calls46
  unfold S46
  have hsz := B_size s
  refine new_i fun r1 w1 hb1 he1 hr1 hs1 => ?_
  have fin : ∀ {w2 : World} (c : Cell), Ext w1 w2 → CandOk (B s) c → (guardW ((#[(.int .i64 c.1), (.int .i64 c.2.1), (.string c.2.2)] : Array Value).size = 3) <|
      stAW (⟨r1, 0, none⟩ : Addr) [(.int .i64 c.1), (.int .i64 c.2.1), (.string c.2.2)] <|
      ldAW [(.int .i64), (.int .i64), .str] (⟨r1, 0, none⟩ : Addr) fun (u2 : (Int × Int × ByteArray × Unit)) => fun w' => (∃ c : Cell, Value.agg #[(.int .i64 u2.1), (.int .i64 u2.2.1), (.string u2.2.2.1)] = .agg #[.int .i64 c.1, .int .i64 c.2.1, .string c.2.2] ∧ CandOk (B s) c) ∧ Ext w w') w2 := by
    intro w2 c he hc
    refine refill_g (vs := cellE.f c) (hb1.ext he) (by rfl) (cellE.one c) (by rfl) ?_
    intro w3 hb3 hg3
    refine boxA (ls := [.int .i64, .int .i64, .str]) (cT c) hb3 rfl ?_
    exact ⟨⟨c, rfl, hc⟩, (he1.trans he).grown hg3 (fun j hj => by cases hj; omega)⟩
  rw [str_beq, str_beq]
  have eT : B (ByteArray.mk #[116, 114, 117, 101]) = [116, 114, 117, 101] := rfl
  have eF : B (ByteArray.mk #[102, 97, 108, 115, 101]) = [102, 97, 108, 115, 101] := rfl
  rw [eT, eF]
  have okT : CandOk [116, 114, 117, 101] (2, 1, ByteArray.empty) := ⟨cellQ_mk (by omega) (by omega) (by omega) (by omega) (by decide), fun d hd qd h _ => txt_inj (by decide +kernel) hd (cellQ_mk (by omega) (by omega) (by omega) (by omega) (by decide)) qd (by rw [h]; decide +kernel)⟩
  have okF : CandOk [102, 97, 108, 115, 101] (2, 0, ByteArray.empty) := ⟨cellQ_mk (by omega) (by omega) (by omega) (by omega) (by decide), fun d hd qd h _ => txt_inj (by decide +kernel) hd (cellQ_mk (by omega) (by omega) (by omega) (by omega) (by decide)) qd (by rw [h]; decide +kernel)⟩
  refine splitW_i (fun h1 => ?_) (fun h1 => ?_)
  · have h1' := of_decide_eq_true h1
    refine box_i (vs := cellE.f (2, 0, ByteArray.empty)) (by rfl) (cellE.one (2, 0, ByteArray.empty)) ?_ (by rfl)
    intro r2 w2 hb2 he2 hr2
    refine splitW_t h1 ?_
    refine stF 1 hb2 (show (1 : Nat) < 3 by omega) ?_
    intro w3 hb3 hg3
    refine boxA (ls := [.int .i64, .int .i64, .str]) (cT (2, 1, ByteArray.empty)) hb3 rfl ?_
    exact fin (2, 1, ByteArray.empty) (he2.grown hg3 (fun j hj => by cases hj; omega)) (by rw [h1']; exact okT)
  have nT := of_decide_eq_false h1
  refine splitW_i (fun h2 => ?_) (fun h2 => ?_)
  · have h2' := of_decide_eq_true h2
    refine box_i (vs := cellE.f (2, 0, ByteArray.empty)) (by rfl) (cellE.one (2, 0, ByteArray.empty)) ?_ (by rfl)
    intro r2 w2 hb2 he2 hr2
    refine splitW_f h1 ?_
    refine boxA (ls := [.int .i64, .int .i64, .str]) (cT (2, 0, ByteArray.empty)) hb2 rfl ?_
    exact fin (2, 0, ByteArray.empty) he2 (by rw [h2']; exact okF)
  have nF := of_decide_eq_false h2
  have hbt : ∀ (i : Nat), i < (B s).length → bt s (i : Int) = (((B s).getD i 0).toNat : Int) := by
    intro i hi
    rw [bt_eq (by omega) (by omega), Int.toNat_natCast]
  refine joinW_s (fun (_ : Unit) w' => w' = w1 ∧ ¬ (2 ≤ (B s).length ∧ (B s).getD 0 0 = 34)) ?_ (fun J hJ => ?_)
  · -- a number
    rintro _ w2 ⟨hw, hq⟩
    subst hw
    refine joinW_s (fun (y : Bool × Unit) w' => y.1 = decide ((B s).getD 0 0 = 45) ∧ w' = w2) ?_ (fun J2 hJ2 => ?_)
    · rintro ⟨neg, _⟩ w3 ⟨hneg, hw⟩
      subst hw
      dsimp only at hneg ⊢
      refine loopW_i (fun y w' => w' = w3 ∧ ∃ i : Nat, i ≤ (B s).length ∧ y = (numN neg ((B s).take i), (i : Int), ())) (fun y => (s.size - y.2.1).toNat) ⟨rfl, 0, by omega, by simp [numN]⟩ ?_
      rintro _ w4 ⟨hw, i, hi, rfl⟩
      subst hw
      dsimp only
      by_cases hlt : i < (B s).length
      · refine splitW_t (decide_eq_true (by omega)) ?_
        refine ⟨⟨by omega, by omega⟩, ?_⟩
        rw [hbt i hlt]
        have hget : (B s)[i]? = some ((B s).getD i 0) := by rw [List.getD_eq_getElem?_getD, List.getElem?_eq_getElem (by omega)]; rfl
        have htake := take_snoc hget
        rw [wrap_i64 (x := (i : Int) + 1) (by omega) (by omega)]
        have hst : (neg = false ∨ i ≠ 0) → numN neg ((B s).take (i + 1)) = stp (numN neg ((B s).take i)) ((B s).getD i 0) := by
          intro h
          rw [htake]
          unfold numN
          cases neg with
          | false => simp
          | true =>
            have : i ≠ 0 := by rcases h with h | h; cases h; exact h
            rw [if_pos rfl, if_pos rfl, List.drop_append_of_le_length (by rw [List.length_take]; omega)]
            simp
        refine splitW_i (fun h0 => ?_) (fun h0 => ?_)
        · have h0 := beq_iff_eq.1 h0
          obtain rfl : i = 0 := by omega
          refine splitW_i (fun hn => ?_) (fun hn => ?_)
          · subst hn
            exact ⟨⟨rfl, 1, by omega, by rw [htake]; simp [numN]⟩, by omega⟩
          · exact ⟨⟨rfl, 1, by omega, by rw [hst (.inl hn)]; rfl⟩, by omega⟩
        · have h0 := beq_eq_false_iff_ne.1 h0
          exact ⟨⟨rfl, i + 1, by omega, by rw [hst (.inr (by omega))]; rfl⟩, by omega⟩
      · obtain rfl : i = (B s).length := by omega
        refine splitW_f (decide_eq_false (by omega)) ?_
        rw [List.take_length]
        have hcase : ∀ d, cellOK d = true → txt d = B s → B s ≠ [110, 117, 108, 108] → d.1 = 1 ∧ B s = Lib.itoa d.2.1 ∧ B d.2.2 = [] := by
          intro d hd h hN
          rcases head_txt hd h nT nF hN with h3 | ⟨_, h3, _⟩
          · exact h3
          · exfalso
            refine hq ⟨?_, ?_⟩
            · rw [h3]; unfold quo; simp
            · rw [h3]; rfl
        refine splitW_i (fun hn => ?_) (fun hn => ?_)
        · subst hn
          have h45 := of_decide_eq_true hneg.symm
          have hb := wrap_b (IntKind.wrap .u64 (0 - numN true (B s)))
          refine fin (1, IntKind.wrap .i64 (IntKind.wrap .u64 (0 - numN true (B s))), ByteArray.empty) (Ext.refl _) ⟨cellQ_mk (by omega) (by omega) hb.1 hb.2 (by decide), fun d hd qd h hN => ?_⟩
          obtain ⟨k, h3, h4⟩ := hcase d hd h hN
          have hz : d.2.1 < 0 := by
            rcases Int.lt_or_le d.2.1 0 with h5 | h5
            · exact h5
            · exfalso
              obtain ⟨c, r, e, g1, g2⟩ := dec_head d.2.1.toNat
              unfold Lib.itoa at h3
              rw [if_neg (by omega), e] at h3
              rw [h3] at h45
              have h45 : c = 45 := h45
              subst h45
              revert g1
              decide
          have hv : numN true (B s) = (d.2.1.natAbs : Int) := by
            rw [h3]
            unfold Lib.itoa numN
            rw [if_pos hz, if_pos rfl]
            exact fold_dec _ (by have := qd.2.1.1; omega)
          have h1' := qd.2.1.1
          refine Prod.ext k.symm (Prod.ext ?_ (B_inj (by rw [h4]; rfl)))
          show IntKind.wrap .i64 (IntKind.wrap .u64 (0 - numN true (B s))) = d.2.1
          rw [hv, wrap_u64, wrap_i64']
          split <;> omega
        · subst hn
          have h45 := of_decide_eq_false hneg.symm
          have hb := wrap_b (numN false (B s))
          refine fin (1, IntKind.wrap .i64 (numN false (B s)), ByteArray.empty) (Ext.refl _) ⟨cellQ_mk (by omega) (by omega) hb.1 hb.2 (by decide), fun d hd qd h hN => ?_⟩
          obtain ⟨k, h3, h4⟩ := hcase d hd h hN
          have hz : ¬ d.2.1 < 0 := by
            intro h5
            unfold Lib.itoa at h3
            rw [if_pos h5] at h3
            rw [h3] at h45
            exact h45 rfl
          have h1' := qd.2.1.2
          have hv : numN false (B s) = (d.2.1.toNat : Int) := by
            rw [h3]
            unfold Lib.itoa numN
            rw [if_neg hz, if_neg (by simp)]
            exact fold_dec _ (by omega)
          refine Prod.ext k.symm (Prod.ext ?_ (B_inj (by rw [h4]; rfl)))
          show IntKind.wrap .i64 (numN false (B s)) = d.2.1
          rw [hv, wrap_i64 (by omega) (by omega)]
          omega
    · rw [empty_beq]
      refine splitW_i (fun h => ?_) (fun h => ?_)
      · have hne : B s ≠ [] := by simpa using h
        have hpos : 0 < (B s).length := List.length_pos_iff.2 hne
        refine ⟨⟨by omega, by omega⟩, hJ2 _ _ ⟨?_, rfl⟩⟩
        dsimp only
        rw [show (0 : Int) = ((0 : Nat) : Int) from rfl, hbt 0 hpos]
        apply Bool.eq_iff_iff.2
        rw [beq_iff_eq, decide_eq_true_iff]
        constructor
        · intro e
          exact UInt8.toNat_inj.1 (show ((B s).getD 0 0).toNat = 45 by omega)
        · intro e
          rw [e]
          rfl
      · have hne : B s = [] := by simpa using h
        refine hJ2 _ _ ⟨?_, rfl⟩
        rw [hne]
        rfl
  · refine joinW_s (fun (y : Bool × Unit) w' => y.1 = decide (2 ≤ (B s).length ∧ (B s).getD 0 0 = 34) ∧ w' = w1) ?_ (fun J2 hJ2 => ?_)
    · rintro ⟨p, _⟩ w2 ⟨hp, hw⟩
      subst hw
      dsimp only at hp ⊢
      subst hp
      refine splitW_i (fun hq => ?_) (fun hq => hJ _ _ ⟨rfl, of_decide_eq_false hq⟩)
      obtain ⟨hq2, hq34⟩ := of_decide_eq_true hq
      refine box_i (vs := cellE.f (3, 0, ByteArray.empty)) (by rfl) (cellE.one (3, 0, ByteArray.empty)) ?_ (by rfl)
      intro r16 w3 hb3 he3 hr3
      rw [wrap_i64 (x := (s.size : Int) - 1) (by omega) (by omega)]
      refine loopW_i (fun y w' => ∃ (i : Nat) (u : List UInt8), 1 ≤ i ∧ i ≤ (B s).length ∧ y = ((i : Int), ()) ∧ Ext w2 w' ∧ Blk w' r16 (cellE.f (3, 0, mkB u)) 23 ∧ u.length ≤ i ∧ u ++ qR ((B s).drop i) = qR ((B s).drop 1)) (fun y => (s.size - y.1).toNat)
        ⟨1, [], by omega, by omega, rfl, he3, hb3, by simp, by simp⟩ ?_
      rintro _ w4 ⟨i, u, hi1, hi2, rfl, he4, hb4, hul, hu⟩
      dsimp only
      by_cases hlt : i + 1 < (B s).length
      · refine splitW_t (decide_eq_true (by omega)) ?_
        refine joinW_s (fun (y : Int × Unit) w' => ∃ (k : Nat) (u : List UInt8), i ≤ k ∧ k + 1 ≤ (B s).length ∧ y = ((k : Int), ()) ∧ Ext w2 w' ∧ Blk w' r16 (cellE.f (3, 0, mkB u)) 23 ∧ u.length ≤ k + 1 ∧ u ++ qR ((B s).drop (k + 1)) = qR ((B s).drop 1)) ?_ (fun J3 hJ3 => ?_)
        · rintro _ w5 ⟨k, u', hk1, hk2, rfl, he5, hb5, hul', hu'⟩
          dsimp only
          rw [wrap_i64 (by omega) (by omega)]
          exact ⟨⟨k + 1, u', by omega, hk2, rfl, he5, hb5, hul', hu'⟩, by omega⟩
        rw [wrap_i64 (x := (i : Int) + 1) (by omega) (by omega), wrap_i64 (x := (i : Int) + 2) (by omega) (by omega), wrap_i64 (x := (i : Int) + 3) (by omega) (by omega)]
        have e2 : (i : Int) + 2 = ((i + 2 : Nat) : Int) := by omega
        have e3 : (i : Int) + 3 = ((i + 3 : Nat) : Int) := by omega
        refine joinW_s (fun (y : Bool × Unit) w' => y.1 = decide (qCond (B s) i) ∧ w' = w4) ?_ (fun J4 hJ4 => ?_)
        · rintro ⟨p, _⟩ w5 ⟨hp, hw⟩
          subst hw
          dsimp only at hp ⊢
          subst hp
          refine splitW_i (fun hc => ?_) (fun hc => ?_)
          · have hc := of_decide_eq_true hc
            have hc' := hc
            obtain ⟨_, c2, c3, c4⟩ := hc'
            refine draw_i fun w6 he6 _ _ => ?_
            have hb6 := hb4.ext he6
            refine boxF (l := .str) 2 (mkB u) hb6 (by rfl) ?_
            refine ⟨⟨by omega, by omega⟩, ⟨by omega, by omega⟩, ?_⟩
            rw [e2, e3, hbt (i + 2) (by omega), hbt (i + 3) (by omega)]
            refine callW_of (hex_calls w6 _) ?_
            rintro _ w7 ⟨rfl, hw⟩
            subst hw
            refine ⟨_, rfl, heldc (held1F hb6 (by rfl)) (held0 ?_)⟩
            refine callW_of (hex_calls w7 _) ?_
            rintro _ w8 ⟨rfl, hw⟩
            subst hw
            refine ⟨_, rfl, heldc (held1F hb6 (by rfl)) (held0 ?_)⟩
            rw [hexby' c3 (hxi_lt _) c4 (hxi_lt _)]
            refine new_i fun r28 w9 hb28 he9 hr28 _ => ?_
            have hb9 := hb6.ext he9
            refine heldc (held1F hb9 (by rfl)) (held0 ?_)
            refine conv_str (e := 5) (bs := [UInt8.ofNat (hxi ((B s).getD (i + 2) 0) * 16 + hxi ((B s).getD (i + 3) 0)).toNat]) (by kernel_rfl) (by kernel_rfl) (by kernel_rfl) (Sl.of_blk hb28 rfl (by omega)) ?_
            refine heldc (held1F hb9 (by rfl)) (held0 ?_)
            refine ⟨?_, ?_⟩
            · rw [mkB_size]
              simp only [IntKind.max]
              show ((_ + (1 : Nat) : Nat) : Int) ≤ 9223372036854775807
              omega
            refine stF 2 hb9 (show (2 : Nat) < 3 by omega) ?_
            intro w10 hb10 hg10
            have hx10 : Ext w2 w10 := ((he4.trans he6).trans he9).grown hg10 (fun j hj => by cases hj; omega)
            refine hJ3 _ _ ⟨i + 3, u ++ [UInt8.ofNat (hxi ((B s).getD (i + 2) 0) * 16 + hxi ((B s).getD (i + 3) 0)).toNat], by omega, by omega, rfl, hx10, ?_, by simp; omega, ?_⟩
            · have e : mkB u ++ ⟨[UInt8.ofNat (hxi ((B s).getD (i + 2) 0) * 16 + hxi ((B s).getD (i + 3) 0)).toNat].toArray⟩ = mkB (u ++ [UInt8.ofNat (hxi ((B s).getD (i + 2) 0) * 16 + hxi ((B s).getD (i + 3) 0)).toNat]) := by
                apply B_inj
                rw [B_append, B_mkB, B_mkB, B_mk]
              rw [e] at hb10
              exact hb10
            · rw [← hu, qR_at_hex hc, List.append_assoc]
              rfl
          · have hc := of_decide_eq_false hc
            refine draw_i fun w6 he6 _ _ => ?_
            have hb6 := hb4.ext he6
            refine boxF (l := .str) 2 (mkB u) hb6 (by rfl) ?_
            refine ⟨⟨by omega, by omega, by omega⟩, ?_⟩
            have ex : s.extract (Int.toNat (i : Int)) (Int.toNat ((i : Int) + 1)) = mkB [(B s).getD i 0] := by
              apply B_inj
              rw [B_extract, B_mkB, Int.toNat_natCast, show ((i : Int) + 1).toNat - i = 1 by omega, drop_two hlt]
              rfl
            rw [ex]
            refine ⟨?_, ?_⟩
            · rw [mkB_size, mkB_size]
              simp only [IntKind.max]
              show ((_ + (1 : Nat) : Nat) : Int) ≤ 9223372036854775807
              omega
            refine stF 2 hb6 (show (2 : Nat) < 3 by omega) ?_
            intro w10 hb10 hg10
            have hx10 : Ext w2 w10 := (he4.trans he6).grown hg10 (fun j hj => by cases hj; omega)
            refine hJ3 _ _ ⟨i, u ++ [(B s).getD i 0], by omega, by omega, rfl, hx10, ?_, by simp; omega, ?_⟩
            · have e : mkB u ++ mkB [(B s).getD i 0] = mkB (u ++ [(B s).getD i 0]) := by
                apply B_inj
                rw [B_append, B_mkB, B_mkB, B_mkB]
              rw [e] at hb10
              exact hb10
            · rw [← hu, qR_at_one hlt hc, List.append_assoc]
              rfl
        · refine ⟨⟨by omega, by omega⟩, ?_⟩
          rw [hbt i (by omega)]
          refine splitW_i (fun g1 => ?_) (fun g1 => ?_)
          · have g1 := beq_iff_eq.1 g1
            have g1 : (B s).getD i 0 = 92 := UInt8.toNat_inj.1 (show ((B s).getD i 0).toNat = 92 by omega)
            refine splitW_i (fun g2 => ?_) (fun g2 => ?_)
            · have g2 := of_decide_eq_true g2
              refine ⟨⟨by omega, by omega⟩, ?_⟩
              rw [e2, hbt (i + 2) (by omega)]
              refine callW_of (hex_calls w4 _) ?_
              rintro _ w5 ⟨rfl, hw⟩
              subst hw
              refine ⟨_, rfl, splitW_i (fun g3 => ?_) (fun g3 => ?_)⟩
              · have g3 := of_decide_eq_true g3
                refine ⟨⟨by omega, by omega⟩, ?_⟩
                rw [e3, hbt (i + 3) (by omega)]
                refine callW_of (hex_calls w5 _) ?_
                rintro _ w6 ⟨rfl, hw⟩
                subst hw
                refine ⟨_, rfl, hJ4 _ _ ⟨?_, rfl⟩⟩
                apply Bool.eq_iff_iff.2
                simp only [decide_eq_true_eq]
                exact ⟨fun h => ⟨g1, by omega, g3, h⟩, fun h => h.2.2.2⟩
              · have g3 := of_decide_eq_false g3
                exact hJ4 _ _ ⟨(decide_eq_false (fun h => g3 h.2.2.1)).symm, rfl⟩
            · have g2 := of_decide_eq_false g2
              exact hJ4 _ _ ⟨(decide_eq_false (fun h => by have := h.2.1; omega)).symm, rfl⟩
          · have g1 := beq_eq_false_iff_ne.1 g1
            exact hJ4 _ _ ⟨(decide_eq_false (fun h => g1 (by rw [h.1]; rfl))).symm, rfl⟩
      · refine splitW_f (decide_eq_false (by omega)) ?_
        refine boxA (ls := [.int .i64, .int .i64, .str]) (cT (3, 0, mkB u)) hb4 rfl ?_
        have hnil : qR ((B s).drop i) = [] := by
          cases hd : (B s).drop i with
          | nil => rw [qR]
          | cons c r =>
            have := congrArg List.length hd
            rw [List.length_drop] at this
            obtain rfl : r = [] := List.eq_nil_of_length_eq_zero (by simp at this; omega)
            exact qR_1 c
        rw [hnil, List.append_nil] at hu
        refine fin (3, 0, mkB u) he4 ⟨cellQ_mk (by omega) (by omega) (by omega) (by omega) (by rw [mkB_size]; omega), fun d hd qd h hN => ?_⟩
        rcases head_txt hd h nT nF hN with ⟨_, h3, _⟩ | ⟨k, h3, h4⟩
        · exfalso
          obtain ⟨c, r, e, hc⟩ := itoa_head d.2.1
          rw [h3, e] at hq34
          have hq34 : c = 34 := hq34
          subst hq34
          revert hc
          decide
        · refine Prod.ext k.symm (Prod.ext h4.symm (B_inj ?_))
          show B (mkB u) = _
          rw [B_mkB, hu, h3]
          exact qR_quo _
    · refine splitW_i (fun h => ?_) (fun h => ?_)
      · have h := of_decide_eq_true h
        refine ⟨⟨by omega, by omega⟩, hJ2 _ _ ⟨?_, rfl⟩⟩
        dsimp only
        rw [show (0 : Int) = ((0 : Nat) : Int) from rfl, hbt 0 (by omega)]
        apply Bool.eq_iff_iff.2
        rw [beq_iff_eq, decide_eq_true_iff]
        constructor
        · intro e
          exact ⟨by omega, UInt8.toNat_inj.1 (show ((B s).getD 0 0).toNat = 34 by omega)⟩
        · rintro ⟨_, e⟩
          rw [e]
          rfl
      · have h := of_decide_eq_false h
        exact hJ2 _ _ ⟨(decide_eq_false (by omega)).symm, rfl⟩
end Go.Proofs.YtlpniinmomhkcaaDoor.V
