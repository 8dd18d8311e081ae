/- ValueKeys: the law's walk. -/
import Derived.Test.YtlpniinmomhkcaaDoorKCur
import Derived.Test.YtlpniinmomhkcaaDoorKRows
set_option linter.unusedVariables false
set_option linter.unusedSimpArgs false
namespace Go.Proofs.YtlpniinmomhkcaaDoor.V
open Go Go.Proofs Go.RowKit

theorem less_iff : ∀ a b : List UInt8, Op.bytesLess a b = decide (cmpL a b = -1)
  | [], [] => rfl
  | _ :: _, [] => rfl
  | [], _ :: _ => rfl
  | a :: x, b :: y => by
    rw [Op.bytesLess, cmpL, less_iff x y]
    by_cases h : a < b
    · have h' : a.toNat < b.toNat := h
      rw [if_pos h', decide_eq_true h]; rfl
    · have h' : ¬ a.toNat < b.toNat := h
      rw [if_neg h', decide_eq_false h, Bool.false_or]
      by_cases h2 : b.toNat < a.toNat
      · rw [if_pos h2, show (a == b) = false from beq_eq_false_iff_ne.2 (by rintro rfl; omega)]; rfl
      · rw [if_neg h2, show (a == b) = true from beq_iff_eq.2 (UInt8.toNat_inj.1 (by omega)), Bool.true_and]
theorem beq_iff (a b : List UInt8) : (a == b) = decide (cmpL a b = 0) := by
  apply Bool.eq_iff_iff.2
  rw [beq_iff_eq, decide_eq_true_iff]
  exact ⟨fun h => by rw [h, cmpL_self], cmpL_zero⟩
theorem keyR_append (a b : List Cell) : keyR (a ++ b) = keyR a ++ keyR b := by simp [keyR]
theorem rowOK_iff {row : List Cell} (h : ∀ c ∈ row, cellOK c = true) : rowOK row = true := by
  unfold rowOK
  rw [List.all_eq_true]
  exact h
theorem keyR_len : ∀ {row : List Cell}, (∀ c ∈ row, cellOK c = true) → (keyR row).length ≤ 600 * row.length
  | [], _ => by simp [keyR]
  | x :: r, h => by
    have h1 := keyC_len (h x (by simp))
    have h2 := keyR_len (row := r) (fun c hc => h c (by simp [hc]))
    have : keyR (x :: r) = keyC x ++ keyR r := rfl
    rw [this, List.length_append, List.length_cons]
    omega
theorem toList_B (s : ByteArray) : s.toList = B s := ByteArray.toList_eq _
theorem keys_calls {w : World} (hp : Pow w) {A1 A2 : Option Addr} {n1 c1 n2 c2 : Nat} {a b : List Cell} (ha : Sli cellE w A1 n1 a) (hb : Sli cellE w A2 n2 b) (qa : ∀ c ∈ a, cellQ c) (qb : ∀ c ∈ b, cellQ c) :
    Calls Tryd.prog 5 #[.slice A1 n1 c1, .slice A2 n2 c2] w (Ret fun v w' => v = .bool true ∧ Ext w w') := by
  apply calls5
  unfold S5
  refine callW_of (lives_calls hp) ?_
  rintro _ w1 ⟨rfl, he1⟩
  refine ⟨_, rfl, splitW_f (by rfl) ?_⟩
  refine callW_of (may_calls (ha.ext he1) qa) ?_
  rintro _ w2 ⟨⟨m1, rfl, hm1⟩, he2⟩
  have hx2 := he1.trans he2
  refine ⟨_, rfl, splitW_i (fun _ => ⟨rfl, hx2⟩) fun hm => ?_⟩
  obtain ⟨hn1, hk1⟩ := hm1 (by simpa using hm)
  refine callW_of (may_calls (hb.ext hx2) qb) ?_
  rintro _ w3 ⟨⟨m2, rfl, hm2⟩, he3⟩
  have hx3 := hx2.trans he3
  refine ⟨_, rfl, splitW_i (fun _ => ⟨rfl, hx3⟩) fun hm' => ?_⟩
  obtain ⟨hn2, hk2⟩ := hm2 (by simpa using hm')
  refine callW_of (vkey_calls (ha.ext hx3) qa (by omega)) ?_
  rintro _ w4 ⟨rfl, he4⟩
  have hx4 := hx3.trans he4
  refine ⟨_, rfl, ?_⟩
  refine callW_of (vkey_calls (hb.ext hx4) qb (by omega)) ?_
  rintro _ w5 ⟨rfl, he5⟩
  have hx5 := hx4.trans he5
  refine ⟨_, rfl, ?_⟩
  rw [rowOK_iff hk1, rowOK_iff hk2, if_pos rfl, if_pos rfl]
  have hcmp : cmpL (keyR a) (keyR b) = cmpR a b := cmp_keys (fun c hc => ⟨hk1 c hc, qa c hc⟩) (fun c hc => ⟨hk2 c hc, qb c hc⟩)
  have hr := cmpL_range (keyR a) (keyR b)
  have hla := ha.len
  have hlb := hb.len
  have hkl1 := keyR_len hk1
  have hkl2 := keyR_len hk2
  refine joinW_s (fun (y : Int × Unit) w' => y = (cmpR a b, ()) ∧ w' = w5) ?_ (fun J hJ => ?_)
  · rintro _ w6 ⟨rfl, hw⟩
    subst hw
    dsimp only
    refine callW_of (unkey_calls w6 (mkB (keyR a)) (by rw [mkB_size]; omega)) ?_
    rw [B_mkB, unkey_keys (fun c hc => ⟨hk1 c hc, qa c hc⟩)]
    rintro _ w7 ⟨he7, x, rfl, hs7⟩
    have hx7 := hx5.trans he7
    refine ⟨(x, 0, ()), rfl, ?_⟩
    refine new_i fun r9 w8 hb9 he8 hr9 hs9 => ?_
    have hx8 := hx7.trans he8
    have ho8 : Owni cellE 23 w8 w7.heap.size (some ⟨r9, 0, none⟩) 0 0 [] := owni_of_blk (E := cellE) (xs := []) hb9 rfl (by omega) (by omega)
    refine append_sli (E := cellE) elem_cell ho8 (by omega) (ha.ext hx8) (by omega) (by omega) ?_
    intro A9 c9 w9 ho9 hg9 _
    have he9 : Ext w7 w9 := he8.grown hg9.grown ho8.row
    have hx9 := hx7.trans he9
    dsimp only
    refine append_sli (E := cellE) elem_cell ho9 he9.size (hb.ext hx9) (by omega) (by omega) ?_
    intro A10 c10 w10 ho10 hg10 _
    have he10 : Ext w7 w10 := he9.grown hg10.grown ho9.row
    have hx10 := hx7.trans he10
    dsimp only
    refine callW_of (vrows_calls (ha.ext hx10) (hb.ext hx10)) ?_
    rintro _ w11 ⟨rfl, he11⟩
    have hx11 := hx10.trans he11
    refine ⟨_, rfl, splitW_t (beq_self_eq_true _) (splitW_t (by rfl) ?_)⟩
    refine new_i fun r13 w12 hb13 he12 _ _ => ?_
    have hx12 := hx11.trans he12
    refine new_i fun r14 w13 hb14 he13 _ _ => ?_
    have hx13 := hx12.trans he13
    have hs13 := (((hs7.ext he10).ext he11).ext he12).ext he13
    refine callW_of (samerows1_calls (hb13.ext he13) hb14 hs13 (ha.ext hx13)) ?_
    rintro _ w14 ⟨⟨q, rfl, hq⟩, he14⟩
    have hx14 := hx13.trans he14
    refine ⟨_, rfl, ?_⟩
    rw [hq.2 rfl]
    refine splitW_t (by rfl) ?_
    have hs14 := (((ho10.sl.ext he11).ext he12).ext he13).ext he14
    refine callW_of (vkey_calls hs14 (fun c hc => by
      rcases List.mem_append.1 hc with hc | hc
      · exact qa c (by simpa using hc)
      · exact qb c hc) (by omega)) ?_
    rintro _ w15 ⟨rfl, he15⟩
    refine ⟨_, rfl, ⟨?_, ?_⟩⟩
    · rw [mkB_size, mkB_size]
      simp only [IntKind.max]
      show ((_ : Nat) : Int) ≤ 9223372036854775807
      omega
    · refine ⟨?_, hx14.trans he15⟩
      rw [List.nil_append, rowOK_iff (fun c hc => by
        rcases List.mem_append.1 hc with hc | hc
        · exact hk1 c hc
        · exact hk2 c hc), if_pos rfl, keyR_append]
      congr 1
      rw [str_beq, B_append, B_mkB, B_mkB, B_mkB]
      simp
  · rw [less_iff, beq_iff, toList_B, toList_B, B_mkB, B_mkB, hcmp]
    rw [hcmp] at hr
    refine splitW_i (fun h1 => ?_) (fun h1 => splitW_i (fun h2 => ?_) (fun h2 => ?_))
    · rw [← of_decide_eq_true h1]
      exact hJ _ _ ⟨rfl, rfl⟩
    · have h1 := of_decide_eq_false h1
      have h0 : cmpR a b ≠ 0 := by
        intro e
        rw [e] at h2
        simp at h2
      have : cmpR a b = 1 := by omega
      exact hJ _ _ ⟨by rw [this], rfl⟩
    · have h1 := of_decide_eq_false h1
      have h0 : cmpR a b = 0 := by
        rw [decide_eq_false h1] at h2
        simpa using h2
      exact hJ _ _ ⟨by rw [h0], rfl⟩
end Go.Proofs.YtlpniinmomhkcaaDoor.V
