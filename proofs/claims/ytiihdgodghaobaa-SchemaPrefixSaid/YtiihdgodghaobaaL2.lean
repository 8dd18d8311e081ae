/- Laws of chapter 17: what is read of what was put. -/
import Derived.Test.YtiihdgodghaobaaL
set_option linter.unusedVariables false
set_option linter.unusedSimpArgs false
namespace Go.Proofs.Ytiihdgodghaobaa.V
open Go Go.Proofs

theorem kindB_val {c : Col} (h : colOK c) : (kindB c).toNat = c.2.1.toNat + (if c.2.2 then 128 else 0) := by
  obtain ⟨_, h1, h2⟩ := h
  unfold kindB
  cases hc : c.2.2 with
  | true => rw [if_pos rfl, if_pos rfl, UInt8.toNat_ofNat']; omega
  | false => rw [if_neg (by simp), if_neg (by simp), UInt8.toNat_ofNat']; omega
theorem colR_colB {c : Col} (h : colOK c) (t : List UInt8) : colR (colB c ++ t) = some (c, t) := by
  have hn := nameE_len h.1
  have hk := kindB_val h
  obtain ⟨_, h1, h2⟩ := h
  have hlen : (UInt8.ofNat (B c.1).length).toNat = (B c.1).length := by rw [UInt8.toNat_ofNat']; omega
  have e : colB c ++ t = kindB c :: UInt8.ofNat (B c.1).length :: (B c.1 ++ t) := by simp [colB]
  rw [e]
  unfold colR
  have g0 : (kindB c :: UInt8.ofNat (B c.1).length :: (B c.1 ++ t)).getD 0 0 = kindB c := rfl
  have g1 : (kindB c :: UInt8.ofNat (B c.1).length :: (B c.1 ++ t)).getD 1 0 = UInt8.ofNat (B c.1).length := rfl
  rw [g0, g1, hlen, hk, if_neg (by simp)]
  congr 1
  refine Prod.ext (Prod.ext ?_ (Prod.ext ?_ ?_)) ?_
  · apply B_inj
    show ((B c.1 ++ t).take (B c.1).length) = B c.1
    simp
  · show ((((c.2.1.toNat + if c.2.2 then 128 else 0) % 128 : Nat)) : Int) = c.2.1
    split <;> omega
  · show decide (128 ≤ c.2.1.toNat + if c.2.2 then 128 else 0) = c.2.2
    cases hc : c.2.2
    · rw [if_neg (by simp), decide_eq_false (by omega)]
    · rw [if_pos rfl, decide_eq_true (by omega)]
  · show (kindB c :: UInt8.ofNat (B c.1).length :: (B c.1 ++ t)).drop (2 + (B c.1).length) = t
    rw [Nat.add_comm]
    show (B c.1 ++ t).drop (B c.1).length = t
    simp
theorem readN_colB : ∀ {cs : List Col}, (∀ c ∈ cs, colOK c) → ∀ t, readN cs.length (cs.flatMap colB ++ t) = some (cs, t)
  | [], _, t => rfl
  | c :: r, h, t => by
    rw [List.length_cons, List.flatMap_cons, List.append_assoc, readN, colR_colB (h c List.mem_cons_self)]
    simp only
    rw [readN_colB (fun d hd => h d (List.mem_cons_of_mem _ hd)) t]
theorem readR_bytes {cs : List Col} (h : checkC cs = 0) (t : List UInt8) : readR (bytesC cs ++ t) = some (cs, t) := by
  obtain ⟨hlen, _, hok⟩ := checkC_ok h
  have hl : (UInt8.ofNat cs.length).toNat = cs.length := by rw [UInt8.toNat_ofNat']; omega
  unfold bytesC
  rw [List.cons_append, readR, hl, readN_colB hok t]
  simp only
  rw [if_pos h]
theorem colB_colR {s : List UInt8} {c : Col} {r : List UInt8} (h : colR s = some (c, r)) : colB c ++ r = s := by
  unfold colR at h
  split at h
  · cases h
  rename_i h0
  match s, h0 with
  | [], h0 => exact absurd (.inl (by simp)) h0
  | [a], h0 => exact absurd (.inl (by simp)) h0
  | a :: b :: q, h0 =>
    injection h with h
    injection h with h1 h2
    subst h1 h2
    have g0 : (a :: b :: q).getD 0 0 = a := rfl
    have g1 : (a :: b :: q).getD 1 0 = b := rfl
    rw [g1] at h0
    rw [g0, g1]
    have hb := b.toNat_lt
    have ha := a.toNat_lt
    have hle : b.toNat ≤ q.length := by
      have : (a :: b :: q).length = q.length + 2 := rfl
      omega
    have e1 : B (⟨(((a :: b :: q).drop 2).take b.toNat).toArray⟩ : ByteArray) = q.take b.toNat := rfl
    unfold colB
    simp only [e1]
    have e2 : (q.take b.toNat).length = b.toNat := by simp; omega
    have e3 : UInt8.ofNat (q.take b.toNat).length = b := by rw [e2]; apply UInt8.toNat_inj.1; rw [UInt8.toNat_ofNat']; omega
    rw [e3]
    have e4 : kindB ((⟨(((a :: b :: q).drop 2).take b.toNat).toArray⟩, ((a.toNat % 128 : Nat) : Int), decide (128 ≤ a.toNat)) : Col) = a := by
      unfold kindB
      simp only
      apply UInt8.toNat_inj.1
      split <;> rename_i hh
      · have := of_decide_eq_true hh
        rw [UInt8.toNat_ofNat', Int.toNat_natCast]; omega
      · have := of_decide_eq_false (Bool.eq_false_iff.2 hh)
        rw [UInt8.toNat_ofNat', Int.toNat_natCast]; omega
    rw [e4]
    have e5 : (a :: b :: q).drop (2 + b.toNat) = q.drop b.toNat := by rw [Nat.add_comm]; rfl
    rw [e5]
    simp
theorem readN_inv : ∀ {n : Nat} {s : List UInt8} {cs : List Col} {r : List UInt8}, readN n s = some (cs, r) → cs.length = n ∧ cs.flatMap colB ++ r = s
  | 0, s, cs, r, h => by
    injection h with h; injection h with h1 h2; subst h1 h2; exact ⟨rfl, rfl⟩
  | n + 1, s, cs, r, h => by
    unfold readN at h
    split at h
    · cases h
    rename_i c q hc
    split at h
    · cases h
    rename_i cs' r' hr
    injection h with h; injection h with h1 h2; subst h1 h2
    obtain ⟨h3, h4⟩ := readN_inv hr
    refine ⟨by simp [h3], ?_⟩
    rw [List.flatMap_cons, List.append_assoc, h4]
    exact colB_colR hc
theorem readR_inv {s : List UInt8} {cs : List Col} {r : List UInt8} (h : readR s = some (cs, r)) : checkC cs = 0 ∧ bytesC cs ++ r = s := by
  cases s with
  | nil => cases h
  | cons b q =>
    rw [readR] at h
    cases hr : readN b.toNat q with
    | none => rw [hr] at h; cases h
    | some p =>
      obtain ⟨cs', r'⟩ := p
      rw [hr] at h
      simp only at h
      by_cases hc : checkC cs' = 0
      · rw [if_pos hc] at h
        injection h with h; injection h with h1 h2; subst h1 h2
        obtain ⟨h3, h4⟩ := readN_inv hr
        refine ⟨hc, ?_⟩
        unfold bytesC
        rw [h3, List.cons_append, h4]
        congr 1
        apply UInt8.toNat_inj.1
        have := b.toNat_lt
        rw [UInt8.toNat_ofNat']; omega
      · rw [if_neg hc] at h
        cases h
theorem length_bytesC {cs : List Col} (h : checkC cs = 0) : 1 ≤ (bytesC cs).length ∧ (bytesC cs).length ≤ 600 := by
  obtain ⟨hlen, _, hok⟩ := checkC_ok h
  have h1 := length_cols hok
  have := Nat.mul_le_mul_right 34 hlen.2
  simp only [bytesC, List.length_cons]
  omega
theorem lightCols_len {cs : List Col} (h : lightCols cs = true) : cs.length ≤ 20 := by
  unfold lightCols at h
  rw [Bool.and_eq_true] at h
  exact of_decide_eq_true h.1
theorem back_calls {w : World} {A : Option Addr} {n c : Nat} {cs : List Col} {behind : ByteArray} (h : Sli colE w A n cs) (hc : n ≤ c) :
    Calls Try.prog 4 #[.slice A n c, .string behind] w (Ret fun v w' => v = .bool true ∧ Ext w w') := by
  apply calls4
  unfold S4
  have hl := h.len
  have hbs := B_size behind
  refine callW_of (lives_calls w) ?_
  rintro _ w1 ⟨rfl, he1⟩
  refine ⟨_, rfl, ?_⟩
  refine splitW_f (by rfl) ?_
  refine callW_of (lightcols_calls (h.ext he1)) ?_
  rintro _ w2 ⟨rfl, he2⟩
  refine ⟨_, rfl, ?_⟩
  have he02 := he1.trans he2
  refine splitW_i (fun _ => ⟨rfl, he02⟩) (fun hlight => ?_)
  refine splitW_i (fun _ => ⟨rfl, he02⟩) (fun hb3 => ?_)
  have hb3 := of_decide_eq_false hb3
  refine callW_of (bytes_calls (h.ext he02) hc) ?_
  rintro _ w3 ⟨rfl, he3⟩
  refine ⟨(_, _, ()), rfl, ?_⟩
  have he03 := he02.trans he3
  dsimp only
  by_cases hck : checkC cs = 0
  · have hbr : bytesR cs = (bytesC cs, 0) := by unfold bytesR; rw [if_pos hck]
    have hlb := length_bytesC hck
    rw [hbr]
    refine splitW_f (by rfl) ?_
    have hsz : (⟨(bytesC cs).toArray⟩ : ByteArray).size = (bytesC cs).length := by rw [B_size, B_mk]
    refine ⟨by simp only [IntKind.max, IntKind.bits, IntKind.signed]; rw [hsz]; simp; omega, ?_⟩
    have hBa : B ((⟨(bytesC cs).toArray⟩ : ByteArray) ++ behind) = bytesC cs ++ B behind := by rw [B_append, B_mk]
    refine callW_of (read_calls (by rw [B_size, hBa, List.length_append]; omega)) ?_
    rintro _ w4 ⟨⟨⟨A4, n4, c4⟩, s4, e4, _⟩, rfl, hres, he4⟩
    refine ⟨(_, _, _, ()), rfl, ?_⟩
    rw [hBa, readR_bytes hck] at hres
    obtain ⟨ho4, rfl, rfl⟩ := hres
    dsimp only at ho4 ⊢
    have he04 := he03.trans he4
    refine splitW_f (by rfl) ?_
    refine splitW_f (by rw [str_beq, B_mk]; simp) ?_
    refine callW_of (samecols_calls ho4.sl (h.ext he04)) ?_
    rintro _ w5 ⟨⟨b, rfl, hb⟩, he5⟩
    refine ⟨_, rfl, ?_⟩
    refine splitW_f (by rw [hb.2 rfl]; rfl) ?_
    have he05 := he04.trans he5
    refine callW_of (read_calls (s := behind) (by omega)) ?_
    rintro _ w6 ⟨⟨⟨A6, n6, c6⟩, s6, e6, _⟩, rfl, hres, he6⟩
    refine ⟨(_, _, _, ()), rfl, ?_⟩
    have he06 := he05.trans he6
    cases hr : readR (B behind) with
    | none =>
      rw [hr] at hres
      injection hres with h1 h2
      injection h1 with h3 h4
      injection h4 with h5 h6
      injection h2 with h7 h8
      injection h8 with h9 h10
      subst h3 h5 h6 h7 h9
      dsimp only
      refine callW_of (bytes_calls (cs := []) (Sli.nil w6 none) (by omega)) ?_
      rintro _ w7 ⟨rfl, he7⟩
      refine ⟨(_, _, ()), rfl, ?_⟩
      refine splitW_t (by rfl) ?_
      exact ⟨rfl, he06.trans he7⟩
    | some p =>
      obtain ⟨ds, left⟩ := p
      rw [hr] at hres
      obtain ⟨ho6, hs6, he6'⟩ := hres
      dsimp only at ho6 hs6 he6' ⊢
      subst hs6 he6'
      obtain ⟨hcd, hbd⟩ := readR_inv hr
      refine callW_of (bytes_calls ho6.sl (by have := ho6.le; omega)) ?_
      rintro _ w7 ⟨rfl, he7⟩
      refine ⟨(_, _, ()), rfl, ?_⟩
      refine splitW_f (by rfl) ?_
      have hbrd : bytesR ds = (bytesC ds, 0) := by unfold bytesR; rw [if_pos hcd]
      rw [hbrd]
      refine splitW_t (by rfl) ?_
      have hle : (bytesC ds).length + left.length = (B behind).length := by rw [← hbd, List.length_append]
      refine ⟨by dsimp only; rw [B_size, B_size, B_mk, B_mk]; simp only [IntKind.max, IntKind.bits, IntKind.signed]; simp; omega, ?_⟩
      refine ⟨?_, he06.trans he7⟩
      dsimp only
      rw [str_beq, B_append, B_mk, B_mk, hbd]
      simp
  · have hbr : bytesR cs = ([], checkC cs) := by unfold bytesR; rw [if_neg hck]
    rw [hbr]
    refine splitW_t (by simpa using hck) ?_
    refine callW_of (check_calls (h.ext he03) hc) ?_
    rintro _ w4 ⟨rfl, he4⟩
    refine ⟨_, rfl, ?_⟩
    refine splitW_t (by simp) ?_
    refine ⟨?_, he03.trans he4⟩
    dsimp only
    rw [str_beq]
    rfl
theorem checkFrom_take : ∀ (r pre : List Col) (k : Nat), checkFrom pre r = 0 → checkFrom pre (r.take k) = 0
  | [], pre, k, h => by simp [checkFrom]
  | c :: r, pre, 0, h => by simp [checkFrom]
  | c :: r, pre, k + 1, h => by
    rw [List.take_succ_cons]
    unfold checkFrom at h ⊢
    split at h
    · cases h
    split at h
    · cases h
    rename_i h1 h2
    rw [if_neg h1, if_neg h2]
    exact checkFrom_take r _ k h
theorem checkC_take {cs : List Col} {k : Nat} (h : checkC cs = 0) (h1 : 1 ≤ k) : checkC (cs.take k) = 0 := by
  obtain ⟨hl, hf, _⟩ := checkC_ok h
  unfold checkC
  rw [if_neg (by rw [List.length_take]; omega)]
  exact checkFrom_take _ _ _ hf
theorem prefix_calls {w : World} {A : Option Addr} {n c : Nat} {cs : List Col} {nn : Int} (h : Sli colE w A n cs) (hc : n ≤ c) (hw0 : -9223372036854775808 ≤ nn) (hw1 : nn < 9223372036854775808) :
    Calls Try.prog 5 #[.slice A n c, .int .i64 nn] w (Ret fun v w' => v = .bool true ∧ Ext w w') := by
  apply calls5
  unfold S5
  have hl := h.len
  refine callW_of (lives_calls w) ?_
  rintro _ w1 ⟨rfl, he1⟩
  refine ⟨_, rfl, ?_⟩
  refine splitW_f (by rfl) ?_
  refine callW_of (lightcols_calls (h.ext he1)) ?_
  rintro _ w2 ⟨rfl, he2⟩
  refine ⟨_, rfl, ?_⟩
  have he02 := he1.trans he2
  refine splitW_i (fun _ => ⟨rfl, he02⟩) (fun hlight => ?_)
  refine callW_of (check_calls (h.ext he02) hc) ?_
  rintro _ w3 ⟨rfl, he3⟩
  refine ⟨_, rfl, ?_⟩
  have he03 := he02.trans he3
  refine splitW_i (fun _ => ⟨rfl, he03⟩) (fun hck => ?_)
  have hck : checkC cs = 0 := by simpa using hck
  obtain ⟨hlen, _, hok⟩ := checkC_ok hck
  refine splitW_f (by rw [beq_eq_false_iff_ne]; omega) ?_
  refine callW_of (pick_calls w3 hw0 hw1 (by omega)) ?_
  rintro _ w4 ⟨rfl, hw4⟩
  subst hw4
  refine ⟨_, rfl, ?_⟩
  obtain ⟨i, hi, hin⟩ : ∃ i : Nat, pick nn (n : Int) = i ∧ i < n := by
    refine ⟨(pick nn (n : Int)).toNat, ?_, ?_⟩ <;>
    · unfold pick
      rw [if_neg (by omega)]
      have := Int.emod_nonneg nn (show (n : Int) ≠ 0 by omega)
      have := Int.emod_lt_of_pos nn (show 0 < (n : Int) by omega)
      omega
  rw [hi, show IntKind.wrap .i64 ((1 : Int) + (i : Int)) = ((i + 1 : Nat) : Int) from by rw [wrap_i64 (by omega) (by omega)]; omega]
  obtain ⟨k, hk⟩ : ∃ k, k = i + 1 := ⟨_, rfl⟩
  rw [← hk, Int.toNat_natCast]
  have hck2 := checkC_take (k := k) hck (by omega)
  have hla := length_bytesC hck
  have hlb := length_bytesC hck2
  have hcut : ∀ {w'}, Ext w w' → Sli colE w' (cutAddr A 0 c 3) k (cs.take k) := fun {w'} he => (h.cut0 (k := k) (m := c) (z := 3) rfl (by omega) (by omega)).ext he
  refine callW_of (bytes_calls (h.ext he03) hc) ?_
  rintro _ w5 ⟨rfl, he5⟩
  refine ⟨(_, _, ()), rfl, ?_⟩
  have he05 := he03.trans he5
  refine ⟨⟨by omega, by omega⟩, ?_⟩
  refine callW_of (bytes_calls (hcut he05) (by omega)) ?_
  rintro _ w6 ⟨rfl, he6⟩
  refine ⟨(_, _, ()), rfl, ?_⟩
  have he06 := he05.trans he6
  have hra : bytesR cs = (bytesC cs, 0) := by unfold bytesR; rw [if_pos hck]
  have hrb : bytesR (cs.take k) = (bytesC (cs.take k), 0) := by unfold bytesR; rw [if_pos hck2]
  rw [hra, hrb]
  dsimp only
  -- a = len :: P ++ Q, b = k :: P
  obtain ⟨P, hP⟩ : ∃ P, P = (cs.take k).flatMap colB := ⟨_, rfl⟩
  obtain ⟨Q, hQ⟩ : ∃ Q, Q = (cs.drop k).flatMap colB := ⟨_, rfl⟩
  have htk : (cs.take k).length = k := by simp; omega
  have ha : bytesC cs = UInt8.ofNat n :: (P ++ Q) := by
    unfold bytesC
    rw [hP, hQ, ← List.flatMap_append, List.take_append_drop, hl]
  have hb : bytesC (cs.take k) = UInt8.ofNat k :: P := by
    unfold bytesC
    rw [htk, hP]
  have hread := readR_bytes hck2 Q
  rw [hb] at hread hlb
  rw [ha] at hla
  rw [ha, hb]
  obtain ⟨sa, hsa⟩ : ∃ sa : ByteArray, sa = ⟨(UInt8.ofNat n :: (P ++ Q)).toArray⟩ := ⟨_, rfl⟩
  obtain ⟨sb, hsb⟩ : ∃ sb : ByteArray, sb = ⟨(UInt8.ofNat k :: P).toArray⟩ := ⟨_, rfl⟩
  rw [← hsa, ← hsb]
  have hBa : B sa = UInt8.ofNat n :: (P ++ Q) := by rw [hsa]; rfl
  have hBb : B sb = UInt8.ofNat k :: P := by rw [hsb]; rfl
  have za : sa.size = P.length + Q.length + 1 := by rw [B_size, hBa]; simp
  have zb : sb.size = P.length + 1 := by rw [B_size, hBb]; simp
  simp only [List.length_cons, List.length_append] at hla hlb
  refine joinW_s (fun (x : Bool × Unit) w' => x.1 = false ∧ Ext w w') ?_ (fun J hJ => ?_)
  · rintro ⟨b, _⟩ w7 ⟨hb', he7⟩
    simp only at hb'
    subst hb'
    refine splitW_f rfl ?_
    have he7' := he7.drew
    show (guardW _ _) w7.drew
    generalize w7.drew = w8 at he7' ⊢
    have e1 : B (sb.extract 0 (Int.toNat 1)) = [UInt8.ofNat k] := by rw [B_extract, hBb]; rfl
    have e2 : B (sa.extract (Int.toNat 1) sa.size) = P ++ Q := by
      rw [B_extract, hBa]
      show ((P ++ Q).take _) = _
      exact List.take_of_length_le (by rw [za, List.length_append]; show _ ≤ P.length + Q.length + 1 - 1; omega)
    have e3 : B (sb.extract 0 (Int.toNat 1) ++ sa.extract (Int.toNat 1) sa.size) = (UInt8.ofNat k :: P) ++ Q := by rw [B_append, e1, e2]; rfl
    refine ⟨⟨by omega, by omega⟩, ⟨by omega, by omega⟩, ?_, ?_⟩
    · rw [B_size, B_size, e1, e2]
      simp only [IntKind.max, IntKind.bits, IntKind.signed, List.length_append, List.length_cons, List.length_nil]
      simp
      omega
    refine callW_of (read_calls (by rw [B_size, e3]; simp; omega)) ?_
    rintro _ w9 ⟨⟨⟨A9, n9, c9⟩, s9, e9, _⟩, rfl, hres, he9⟩
    refine ⟨(_, _, _, ()), rfl, ?_⟩
    rw [e3, hread] at hres
    obtain ⟨ho9, h9, h9'⟩ := hres
    dsimp only at ho9 h9 h9' ⊢
    subst h9 h9'
    have he09 := he7'.trans he9
    refine splitW_t (by rfl) ?_
    refine ⟨⟨by omega, by omega⟩, ?_⟩
    refine callW_of (samecols_calls ho9.sl (hcut he09)) ?_
    rintro _ w10 ⟨⟨b, rfl, hb⟩, he10⟩
    refine ⟨_, rfl, ?_⟩
    refine splitW_t (hb.2 rfl) ?_
    refine ⟨⟨by omega, by omega⟩, ?_, he09.trans he10⟩
    congr 1
    rw [str_beq, B_mk, B_extract, hBa, Int.toNat_natCast, zb]
    refine decide_eq_true ?_
    show Q = ((P ++ Q).drop P.length).take _
    rw [List.drop_left, List.take_of_length_le (by omega)]
  · have he7 := he06.drew
    show (splitW _ _ _) w6.drew
    generalize w6.drew = w7 at he7 ⊢
    refine splitW_f (by rfl) ?_
    refine splitW_f (by rfl) ?_
    refine splitW_f (decide_eq_false (by omega)) ?_
    refine splitW_f (decide_eq_false (by omega)) ?_
    refine ⟨⟨by omega, by omega⟩, ?_⟩
    have b0 : ∀ x : Nat, x ≤ 16 → (((UInt8.ofNat x).toNat : Nat) : Int) = (x : Int) := fun x hx => by rw [UInt8.toNat_ofNat']; omega
    have ba : bt sa 0 = (n : Int) := by
      rw [bt_eq (by omega) (by omega), hBa]
      exact b0 n (by omega)
    have bb : bt sb 0 = (k : Int) := by
      rw [bt_eq (by omega) (by omega), hBb]
      exact b0 k (by omega)
    rw [ba, bb, wrap_i64 (by omega) (by omega), wrap_i64 (by omega) (by omega)]
    refine splitW_f (by simp) ?_
    refine ⟨⟨by omega, by omega⟩, ?_⟩
    refine splitW_f (by simp) ?_
    refine ⟨⟨by omega, by omega, by omega⟩, ⟨by omega, by omega⟩, ?_⟩
    refine hJ _ _ ⟨?_, he7⟩
    dsimp only
    rw [str_beq, B_extract, B_extract, hBa, hBb, Int.toNat_natCast, zb]
    have : (((UInt8.ofNat n :: (P ++ Q)).drop (Int.toNat 1)).take (P.length + 1 - Int.toNat 1)) = (((UInt8.ofNat k :: P).drop (Int.toNat 1)).take (P.length + 1 - Int.toNat 1)) := by
      show ((P ++ Q).take P.length) = (P.take P.length)
      simp
    rw [this]
    simp
end Go.Proofs.Ytiihdgodghaobaa.V
