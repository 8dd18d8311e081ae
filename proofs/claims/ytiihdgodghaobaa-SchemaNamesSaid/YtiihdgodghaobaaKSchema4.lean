/- Contracts of the document's answer (17): Bytes, Read; of kit.SameRows. -/
import Derived.Test.YtiihdgodghaobaaKSchema3
set_option linter.unusedVariables false
set_option linter.unusedSimpArgs false
namespace Go.Proofs.Ytiihdgodghaobaa.V
open Go Go.Proofs Go.RowKit

theorem rbytes_calls {w : World} {A : Option Addr} {n c : Nat} {cs : List Col} (h : Sli colE w A n cs) :
    Calls Try.prog 31 #[.slice A n c] w (Ret fun v w' => v = .tuple #[.string ⟨(bytesR cs).1.toArray⟩, .int .i64 (bytesR cs).2] ∧ Ext w w') := by
  apply calls31
  unfold S31
  have hl := h.len
  refine callW_of (rcheck_calls h) ?_
  rintro _ w1 ⟨rfl, he1⟩
  refine ⟨_, rfl, ?_⟩
  unfold bytesR
  refine splitW_i (fun hn => ?_) (fun hn => ?_)
  · have hn : checkC cs ≠ 0 := by simpa using hn
    rw [if_neg hn]
    exact ⟨rfl, he1⟩
  have hn : checkC cs = 0 := by simpa using hn
  rw [if_pos hn]
  obtain ⟨hlen, _, hok⟩ := checkC_ok hn
  apply newW_i
  have e0 : #[Value.int .u8 (IntKind.wrap .u8 ((n : Nat) : Int))] = (bV [UInt8.ofNat cs.length]).toArray := by rw [wrap_u8_nat, hl]; rfl
  rw [e0]
  have ho0 : Own 5 (w1.alloc (.cells (bV [UInt8.ofNat cs.length]).toArray 5)) w.heap.size (some ⟨w1.heap.size, 0, none⟩) 1 1 (bV [UInt8.ofNat cs.length]) := Own.lit (cs := (bV [UInt8.ofNat cs.length]).toArray) he1.size (by simp [bV])
  have he2 := he1.alloc (.cells (bV [UInt8.ofNat cs.length]).toArray 5)
  generalize w1.alloc (.cells (bV [UInt8.ofNat cs.length]).toArray 5) = w2 at ho0 he2 ⊢
  refine loopW_i (fun x w' => Ext w w' ∧ ∃ (i : Nat) (A' : Option Addr) (m c' : Nat), i ≤ n ∧ x = ((A', m, c'), (i : Int), ()) ∧ Own 5 w' w.heap.size A' m c' (bV (UInt8.ofNat cs.length :: (cs.take i).flatMap colB))) (fun x => (n - x.2.1).toNat) ⟨he2, 0, _, 1, 1, by omega, rfl, ho0⟩ ?_
  rintro _ w' ⟨he, i, A', m, c', hi, rfl, ho⟩
  dsimp only
  have hm := ho.sl.blen
  have hlb : (UInt8.ofNat cs.length :: (cs.take i).flatMap colB).length ≤ 600 := by
    have := length_cols (cs := cs.take i) (fun c hc => hok c (List.mem_of_mem_take hc))
    have h2 : (cs.take i).length ≤ 16 := by simp; omega
    have := Nat.mul_le_mul_right 34 h2
    simp only [List.length_cons]
    omega
  by_cases hlt : i < n
  · refine splitW_t (decide_eq_true (by omega)) ?_
    have hmem : cs.getD i col0 ∈ cs := getD_mem (by omega)
    have htake : cs.take (i + 1) = cs.take i ++ [cs.getD i col0] := by rw [getD_of_lt (show i < cs.length by omega)]; exact List.take_succ_eq_append_getElem (by omega)
    have rd0 : ∀ {w' : World} {K : ByteArray → WP}, Ext w w' → K (cs.getD i col0).1 w' → (guardW (0 ≤ (i : Int) ∧ (i : Int) < ((n : Nat) : Int)) <| ptrW A fun p => ldW .str (p.add (Int.toNat (i : Int) * 3)) K) w' := fun he hk => idx_f0 (l := .str) (fun c => c.1) col0 (h.ext he) (fun _ => rfl) rfl (by omega) (by omega) (by rw [Int.toNat_natCast]; exact hk)
    refine idx_f (l := .int .i64) 1 (fun c => c.2.1) col0 (h.ext he) (fun _ => rfl) rfl (by omega) (by omega) ?_
    rw [Int.toNat_natCast]
    have rdn : ∀ {K : Bool → WP}, K (cs.getD i col0).2.2 w' → (guardW (0 ≤ (i : Int) ∧ (i : Int) < ((n : Nat) : Int)) <| ptrW A fun p => ldW .bool ((p.add (Int.toNat (i : Int) * 3)).add 2) K) w' := fun hk => idx_f (l := .bool) 2 (fun c => c.2.2) col0 (h.ext he) (fun _ => rfl) rfl (by omega) (by omega) (by rw [Int.toNat_natCast]; exact hk)
    generalize cs.getD i col0 = col at *
    obtain ⟨hk0, hk1, hk2⟩ := hok col hmem
    have hname := nameE_len hk0
    have hns := B_size col.1
    have hkn : IntKind.wrap .u8 col.2.1 = ((col.2.1.toNat : Nat) : Int) := by rw [wrap_u8]; omega
    refine joinW_s (fun (y : Int × Unit) w'' => y.1 = ((kindB col).toNat : Int) ∧ w'' = w') ?_ (fun J hJ => ?_)
    · rintro ⟨kb, _⟩ w3 ⟨hkb, hw3⟩
      simp only at hkb
      subst hkb hw3
      refine rd0 he ?_
      dsimp only
      rw [wrap_u8_nat]
      have e1 : (#[.int .u8 ((kindB col).toNat : Int), .int .u8 ((UInt8.ofNat col.1.size).toNat : Int)] : Array Value) = (bV [kindB col, UInt8.ofNat (B col.1).length]).toArray := by rw [hns]; rfl
      rw [e1]
      refine append_new (ys := bV [kindB col, UInt8.ofNat (B col.1).length]) elem_u8 ho he.size (bV_one _) (by simp [bV]; omega) (by omega) ?_
      intro A6 c6 w6 ho6 hg6
      rw [← bV_append] at ho6
      have he6 := he.grown hg6.grown ho.row'
      refine rd0 he6 ?_
      dsimp only
      have hm6 := ho6.sl.blen
      have hm7 : (bV [kindB col, UInt8.ofNat (B col.1).length]).length = 2 := rfl
      rw [hm7] at ho6 hm6 ⊢
      refine append_str elem_u8 (by kernel_rfl) ho6 he6.size (by omega) ?_
      intro A7 c7 w7 ho7 hg7
      have he7 := he6.grown hg7.grown ho6.row'
      rw [wrap_i64 (by omega) (by omega)]
      refine ⟨⟨he7, i + 1, A7, _, c7, by omega, rfl, ?_⟩, by omega⟩
      have e2 : UInt8.ofNat cs.length :: (cs.take (i + 1)).flatMap colB = (UInt8.ofNat cs.length :: (cs.take i).flatMap colB ++ [kindB col, UInt8.ofNat (B col.1).length]) ++ B col.1 := by
        rw [htake]
        simp [colB]
      rw [e2]
      exact ho7
    refine rdn ?_
    have hcases : col.2.1.toNat = 1 ∨ col.2.1.toNat = 2 ∨ col.2.1.toNat = 3 := by omega
    refine splitW_i (fun hnull => ?_) (fun hnull => ?_)
    · refine hJ _ _ ⟨?_, rfl⟩
      rw [hkn]
      unfold kindB
      rw [hnull, if_pos rfl]
      rcases hcases with h | h | h <;> rw [h] <;> rfl
    · refine hJ _ _ ⟨?_, rfl⟩
      rw [hkn]
      unfold kindB
      rw [hnull, if_neg (by simp)]
      rcases hcases with h | h | h <;> rw [h] <;> rfl
  · obtain rfl : i = n := by omega
    refine splitW_f (decide_eq_false (by omega)) ?_
    rw [List.take_of_length_le (by omega)] at ho
    refine conv_str (e := 5) (by kernel_rfl) (by kernel_rfl) (by kernel_rfl) ho.sl ?_
    exact ⟨rfl, he⟩
theorem rread_calls {w : World} {s : ByteArray} (hsmall : s.size ≤ 9223372036854775807) : Calls Try.prog 32 #[.string s] w (Ret fun v w' => ∃ x : RdT, v = Rs.val (.many [.one .slc, .one .str, .one (.int .i64)]) x ∧ RdRes w (readR (B s)) x w') := by
  apply calls32
  unfold S32
  have hsz := B_size s
  have none_ : ∀ {w'}, readR (B s) = none → Ext w w' → ∃ x : RdT, Value.tuple #[(.slice none 0 0), (.string (ByteArray.mk #[])), (.int .i64 (171 : Int))] = Rs.val (.many [.one .slc, .one .str, .one (.int .i64)]) x ∧ RdRes w (readR (B s)) x w' := fun {w'} h he => ⟨((none, 0, 0), ⟨#[]⟩, 171, ()), rfl, by rw [h]; exact ⟨rfl, he⟩⟩
  refine splitW_i (fun h => ?_) (fun h => ?_)
  · rw [str_beq] at h
    have hB : B s = [] := of_decide_eq_true h
    exact none_ (by rw [hB]; rfl) (Ext.refl w)
  rw [str_beq] at h
  have hB : B s ≠ [] := of_decide_eq_false h
  obtain ⟨b, r0, hs⟩ : ∃ b r0, B s = b :: r0 := by
    cases hh : B s with
    | nil => exact absurd hh hB
    | cons b r => exact ⟨b, r, rfl⟩
  have hl : (B s).length = r0.length + 1 := by rw [hs]; rfl
  refine ⟨⟨by omega, by omega⟩, ⟨by omega, by omega⟩, ?_⟩
  have hb0 : bt s 0 = (b.toNat : Int) := by rw [bt_eq (by omega) (by omega), hs]; rfl
  have hlt := b.toNat_lt
  rw [hb0, wrap_i64 (x := (b.toNat : Int)) (by omega) (by omega)]
  have ex : s.extract (Int.toNat 1) s.size = ⟨r0.toArray⟩ := by
    apply B_inj
    rw [B_extract, hs]
    show _ = r0
    exact List.take_of_length_le (by simp; omega)
  rw [ex]
  refine loopW_i (fun x w' => Ext w w' ∧ ∃ (i : Nat) (acc : List Col) (rest : ByteArray) (A : Option Addr) (m c : Nat), i ≤ b.toNat ∧ x = (rest, (A, m, c), (i : Int), ()) ∧ Owni colE 31 w' w.heap.size A m c acc ∧ acc.length = i ∧ rest.size ≤ 9223372036854775807 ∧ readN b.toNat r0 = (readN (b.toNat - i) (B rest)).map fun p => (acc ++ p.1, p.2))
    (fun x => (b.toNat - x.2.2.1).toNat) ⟨Ext.refl w, 0, [], ⟨r0.toArray⟩, none, 0, 0, by omega, rfl, Owni.nil _ _ _, rfl, by rw [B_size, B_mk]; omega, by rw [B_mk, Nat.sub_zero]; cases readN b.toNat r0 <;> simp⟩ ?_
  rintro _ w' ⟨he, i, acc, rest, A, m, c, hi, rfl, ho, hacc, hrs, hrd⟩
  dsimp only
  have hm := ho.len
  have hrB := B_size rest
  by_cases hlt : i < b.toNat
  · refine splitW_t (decide_eq_true (by omega)) ?_
    have bad : colR (B rest) = none → readR (B s) = none := fun hcol => by rw [hs, readR, readN_stop hlt hcol hrd]
    refine splitW_i (fun h2 => ?_) (fun h2 => ?_)
    · have h2 := of_decide_eq_true h2
      exact none_ (bad (by unfold colR; rw [if_pos (.inl (by omega))])) he
    have h2 := of_decide_eq_false h2
    refine guard_i ⟨by omega, by omega⟩ ?_
    have hb1 : bt rest 1 = (((B rest).getD 1 0).toNat : Int) := bt_eq (by omega) (by omega)
    have hb0' : bt rest 0 = (((B rest).getD 0 0).toNat : Int) := bt_eq (by omega) (by omega)
    have hlt1 := ((B rest).getD 1 0).toNat_lt
    have hlt0 := ((B rest).getD 0 0).toNat_lt
    simp only [hb1, hb0']
    rw [wrap_i64 (x := (((B rest).getD 1 0).toNat : Int)) (by omega) (by omega), wrap_i64 (x := (2 : Int) + (((B rest).getD 1 0).toNat : Int)) (by omega) (by omega)]
    refine splitW_i (fun h3 => ?_) (fun h3 => ?_)
    · have h3 := of_decide_eq_true h3
      exact none_ (bad (by unfold colR; rw [if_pos (.inr (by omega))])) he
    have h3 := of_decide_eq_false h3
    refine draw_i fun w1 he1 _ _ => ?_
    refine guard_i ⟨by omega, by omega⟩ (guard_i ⟨by omega, by omega, by omega⟩ (guard_i ⟨by omega, by omega⟩ (guard_i ⟨by omega, by omega⟩ ?_)))
    have hcol : colR (B rest) = some ((⟨(((B rest).drop 2).take ((B rest).getD 1 0).toNat).toArray⟩, ((((B rest).getD 0 0).toNat % 128 : Nat) : Int), decide (128 ≤ ((B rest).getD 0 0).toNat)), (B rest).drop (2 + ((B rest).getD 1 0).toNat)) := by
      unfold colR
      rw [if_neg (by omega)]
    obtain ⟨col, hcd⟩ : ∃ col : Col, col = (⟨(((B rest).drop 2).take ((B rest).getD 1 0).toNat).toArray⟩, ((((B rest).getD 0 0).toNat % 128 : Nat) : Int), decide (128 ≤ ((B rest).getD 0 0).toNat)) := ⟨_, rfl⟩
    rw [← hcd] at hcol
    have e1 : rest.extract (Int.toNat 2) (Int.toNat (2 + (((B rest).getD 1 0).toNat : Int))) = col.1 := by
      rw [hcd]
      apply B_inj
      rw [B_extract, B_mk]
      congr 1
      omega
    have e2 : IntKind.wrap .i64 (Int.tmod (((B rest).getD 0 0).toNat : Int) 128) = col.2.1 := by
      rw [hcd, show Int.tmod (((B rest).getD 0 0).toNat : Int) 128 = ((((B rest).getD 0 0).toNat % 128 : Nat) : Int) from rfl, wrap_i64 (by omega) (by omega)]
    have e3 : decide ((((B rest).getD 0 0).toNat : Int) ≥ 128) = col.2.2 := by
      rw [hcd]
      exact decide_eq_decide.2 (by omega)
    rw [e1, e2, e3]
    have he1 := he.trans he1
    refine append_newi (E := colE) (ys := [col]) (by rfl) rfl elem_col (ho.ext (by assumption)) he1.size (by omega) (by omega) ?_
    intro A3 c3 w3 ho3 hg3
    refine guard_i ⟨by omega, by omega⟩ (guard_i ⟨by omega, by omega⟩ ?_)
    dsimp only
    have e4 : rest.extract (Int.toNat (2 + (((B rest).getD 1 0).toNat : Int))) rest.size = ⟨((B rest).drop (2 + ((B rest).getD 1 0).toNat)).toArray⟩ := by
      apply B_inj
      rw [B_extract, show Int.toNat (2 + (((B rest).getD 1 0).toNat : Int)) = 2 + ((B rest).getD 1 0).toNat by omega]
      show _ = (B rest).drop (2 + ((B rest).getD 1 0).toNat)
      exact List.take_of_length_le (by simp; omega)
    rw [e4, wrap_i64 (by omega) (by omega)]
    refine ⟨⟨he1.grown hg3.grown ho.row, i + 1, acc ++ [col], _, A3, _, c3, by omega, rfl, ho3, by simp [hacc], ?_, ?_⟩, by omega⟩
    · rw [B_size, B_mk, List.length_drop]; omega
    · rw [B_mk]; exact readN_more hlt hcol hrd
  · obtain rfl : i = b.toNat := by omega
    refine splitW_f (decide_eq_false (by omega)) ?_
    rw [Nat.sub_self] at hrd
    have hrd2 : readN b.toNat r0 = some (acc, B rest) := by rw [hrd]; simp [readN]
    refine callW_of (rcheck_calls ho.sl) ?_
    rintro _ w1 ⟨rfl, he1⟩
    refine ⟨_, rfl, ?_⟩
    refine splitW_i (fun hck => ?_) (fun hck => ?_)
    · have hck : checkC acc ≠ 0 := by simpa using hck
      refine none_ ?_ (he.trans he1)
      rw [hs, readR, hrd2]
      simp only
      rw [if_neg hck]
    · have hck : checkC acc = 0 := by simpa using hck
      have hres : readR (B s) = some (acc, B rest) := by
        rw [hs, readR, hrd2]
        simp only
        rw [if_pos hck]
      refine ⟨((A, m, c), rest, 0, ()), rfl, ?_⟩
      rw [hres]
      exact ⟨⟨ho.ext he1, rfl, rfl⟩, he.trans he1⟩
theorem samerows1_calls {w : World} {r r2 n c n2 c2 : Nat} {A A2 : Option Addr} {t t2 : TypeId} {xs ys : List Cell} (hr : Blk w r [.slice A n c] t) (hr2 : Blk w r2 [.slice A2 n2 c2] t2) (h : Sli cellE w A n xs) (h2 : Sli cellE w A2 n2 ys) :
    Calls Try.prog 27 #[.slice (some ⟨r, 0, none⟩) 1 1, .slice (some ⟨r2, 0, none⟩) 1 1] w (Ret fun v w' => (∃ b : Bool, v = .bool b ∧ (b = true ↔ xs = ys)) ∧ Ext w w') := by
  apply calls27
  unfold S27
  have l1 := h.len
  have l2 := h2.len
  have hle := h.2.1
  have rd1 : ∀ {w' : World} {K : (Option Addr × Nat × Nat) → WP}, Ext w w' → K (A, n, c) w' → (guardW (0 ≤ (0 : Int) ∧ (0 : Int) < ((1 : Nat) : Int)) <| ptrW (some (⟨r, 0, none⟩ : Addr)) fun p => ldW .slc (p.add (Int.toNat (0 : Int) * 1)) K) w' := fun {w' K} he hk =>
    guard_i ⟨by omega, by omega⟩ (ptr_i (ld_blk (x := (A, n, c)) (hr.ext he) (by rfl) hk))
  have rd2 : ∀ {w' : World} {K : (Option Addr × Nat × Nat) → WP}, Ext w w' → K (A2, n2, c2) w' → (guardW (0 ≤ (0 : Int) ∧ (0 : Int) < ((1 : Nat) : Int)) <| ptrW (some (⟨r2, 0, none⟩ : Addr)) fun p => ldW .slc (p.add (Int.toNat (0 : Int) * 1)) K) w' := fun {w' K} he hk =>
    guard_i ⟨by omega, by omega⟩ (ptr_i (ld_blk (x := (A2, n2, c2)) (hr2.ext he) (by rfl) hk))
  refine splitW_f (by rfl) ?_
  refine loopW_i (fun x w' => Ext w w' ∧ (x = (0, ()) ∨ x = (1, ()) ∧ xs = ys)) (fun x => (1 - x.1).toNat) ⟨Ext.refl w, .inl rfl⟩ ?_
  rintro _ w1 ⟨he, rfl | ⟨rfl, heq⟩⟩
  · dsimp only
    refine splitW_t (by rfl) ?_
    refine draw_i fun w2 he2 _ _ => ?_
    have he2 := he.trans he2
    refine rd1 he2 (rd2 he2 ?_)
    dsimp only
    refine splitW_i (fun hne => ?_) (fun hne => ?_)
    · have hne := bne_iff_ne.1 hne
      refine ⟨⟨false, rfl, ?_⟩, he2⟩
      simp only [Bool.false_eq_true, false_iff]
      rintro rfl
      omega
    have hne := bne_eq_false_iff_eq.1 hne
    obtain rfl : n = n2 := by omega
    refine loopW_i (fun x w' => Ext w w' ∧ ∃ i : Nat, i ≤ n ∧ x = ((i : Int), ()) ∧ xs.take i = ys.take i) (fun x => (n - x.1).toNat) ⟨he2, 0, by omega, rfl, by simp⟩ ?_
    rintro _ w3 ⟨he3, i, hi, rfl, ht⟩
    dsimp only
    refine rd1 he3 ?_
    dsimp only
    by_cases hlt : i < n
    · refine splitW_t (decide_eq_true (by omega)) ?_
      refine draw_i fun w4 he4 _ _ => ?_
      have he4 := he3.trans he4
      refine rd1 he4 ?_
      dsimp only
      refine idx_A (ls := [.int .i64, .int .i64, .str]) cT cell0 (h.ext he4) (fun _ => rfl) rfl (by omega) (by omega) ?_
      refine rd2 he4 ?_
      dsimp only
      refine idx_A (ls := [.int .i64, .int .i64, .str]) cT cell0 (h2.ext he4) (fun _ => rfl) rfl (by omega) (by omega) ?_
      rw [Int.toNat_natCast, getD_of_lt (show i < xs.length by omega), getD_of_lt (show i < ys.length by omega)]
      refine ⟨_, fun w' => neq_cell w' (xs[i]'(by omega)) (ys[i]'(by omega)) _ _, ?_⟩
      refine splitW_i (fun hne => ?_) (fun heq => ?_)
      · refine ⟨⟨false, rfl, ?_⟩, he4⟩
        simp only [Bool.false_eq_true, false_iff]
        rintro rfl
        rw [cellEq_iff.2 rfl] at hne
        cases hne
      · have heq : xs[i]'(by omega) = ys[i]'(by omega) := cellEq_iff.1 (by simpa using heq)
        rw [wrap_i64 (by omega) (by omega)]
        refine ⟨⟨he4, i + 1, by omega, rfl, ?_⟩, by omega⟩
        rw [List.take_succ_eq_append_getElem (by omega), List.take_succ_eq_append_getElem (by omega), ht, heq]
    · refine splitW_f (decide_eq_false (by omega)) ?_
      rw [List.take_of_length_le (by omega), List.take_of_length_le (by omega)] at ht
      rw [wrap_i64 (by omega) (by omega)]
      exact ⟨⟨he3, .inr ⟨rfl, ht⟩⟩, by decide⟩
  · dsimp only
    exact splitW_f (by rfl) ⟨⟨true, rfl, by simp [heq]⟩, he⟩
end Go.Proofs.Ytiihdgodghaobaa.V
