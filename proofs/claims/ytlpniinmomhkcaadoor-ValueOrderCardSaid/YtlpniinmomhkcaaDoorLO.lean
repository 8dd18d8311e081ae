/- ValueOrder: the law's walk, and what it comes to. -/
import Derived.Test.YtlpniinmomhkcaaDoorKVal3
set_option linter.unusedVariables false
set_option linter.unusedSimpArgs false
namespace Go.Proofs.YtlpniinmomhkcaaDoor.V
open Go Go.Proofs Go.RowKit

theorem cmpI_neg (a b : Int) : cmpI b a = -cmpI a b := by unfold cmpI; split <;> split <;> omega
theorem cmpI_range (a b : Int) : cmpI a b = -1 ∨ cmpI a b = 0 ∨ cmpI a b = 1 := by unfold cmpI; split <;> (try split) <;> omega
theorem cmpI_zero {a b : Int} (h : cmpI a b = 0) : a = b := by unfold cmpI at h; split at h <;> (try split at h) <;> omega
theorem cmpI_trans {a b c : Int} (h : cmpI a b ≤ 0) (k : cmpI b c ≤ 0) : cmpI a c ≤ 0 := by unfold cmpI at *; repeat' split at * <;> omega
theorem orI_neg (a b : Int) : orI (-a) (-b) = -orI a b := by unfold orI; split <;> split <;> omega
theorem orI_zero {a b : Int} (h : orI a b = 0) : a = 0 ∧ b = 0 := by unfold orI at h; split at h <;> omega
theorem orI_range {a b : Int} (h : a = -1 ∨ a = 0 ∨ a = 1) (k : b = -1 ∨ b = 0 ∨ b = 1) : orI a b = -1 ∨ orI a b = 0 ∨ orI a b = 1 := by unfold orI; split <;> omega
theorem cmpC_neg (a b : Cell) : cmpC b a = -cmpC a b := by
  unfold cmpC
  rw [cmpI_neg, cmpI_neg a.2.1, cmpL_neg (B a.2.2), orI_neg, orI_neg]
theorem cmpC_range (a b : Cell) : cmpC a b = -1 ∨ cmpC a b = 0 ∨ cmpC a b = 1 := orI_range (cmpI_range _ _) (orI_range (cmpI_range _ _) (cmpL_range _ _))
theorem cmpC_zero {a b : Cell} (h : cmpC a b = 0) : a = b := by
  have h1 := orI_zero h
  have h2 := orI_zero h1.2
  exact Prod.ext (cmpI_zero h1.1) (Prod.ext (cmpI_zero h2.1) (B_inj (cmpL_zero h2.2)))
theorem cmpC_self (a : Cell) : cmpC a a = 0 := by unfold cmpC; rw [cmpI_self, cmpI_self, cmpL_self]; rfl
/-- An order by one thing first, then by another one. -/
theorem orI_trans {p q r x y z : Int} (hp : p = -1 ∨ p = 0 ∨ p = 1) (hq : q = -1 ∨ q = 0 ∨ q = 1) (hr : r = -1 ∨ r = 0 ∨ r = 1)
    (t1 : p ≤ 0 → q ≤ 0 → r ≤ 0) (t2 : p ≤ 0 → q ≤ 0 → r = 0 → p = 0 ∧ q = 0) (t3 : x ≤ 0 → y ≤ 0 → z ≤ 0) (h : orI p x ≤ 0) (k : orI q y ≤ 0) : orI r z ≤ 0 := by
  unfold orI at *
  split at h <;> split at k <;> split
  all_goals first
    | (have := t2 (by omega) (by omega) (by assumption); omega)
    | (have := t1 (by omega) (by omega); omega)
    | (have := t1 (by omega) (by omega); have := t3 (by omega) (by omega); omega)
    | omega
theorem cmpI_tz {a b c : Int} (h : cmpI a b ≤ 0) (k : cmpI b c ≤ 0) (z : cmpI a c = 0) : cmpI a b = 0 ∧ cmpI b c = 0 := by
  have := cmpI_zero z
  subst this
  rw [cmpI_neg] at k
  rw [cmpI_neg a b]
  omega
theorem cmpC_trans {a b c : Cell} (h : cmpC a b ≤ 0) (k : cmpC b c ≤ 0) : cmpC a c ≤ 0 :=
  orI_trans (cmpI_range _ _) (cmpI_range _ _) (cmpI_range _ _) (fun h k => cmpI_trans h k) (fun h k z => cmpI_tz h k z)
    (fun h k => orI_trans (cmpI_range _ _) (cmpI_range _ _) (cmpI_range _ _) (fun h k => cmpI_trans h k) (fun h k z => cmpI_tz h k z) (fun h k => cmpL_trans h k) h k) h k
theorem cmpR_1 (a b : Cell) : cmpR [a] [b] = cmpC a b := orI_0 _
theorem cmpR_2 (a b c : Cell) : cmpR [a, b] [a, c] = cmpC b c := by
  rw [cmpR, cmpC_self, orI_z, cmpR_1]
theorem cmpR_3 (a b : Cell) : cmpR [a] [a, b] = -1 := by
  rw [cmpR, cmpC_self, orI_z]
  rfl
theorem order_calls {w : World} (hp : Pow w) (a b c : Cell) : Calls Tryd.prog 3 #[.agg #[.int .i64 a.1, .int .i64 a.2.1, .string a.2.2], .agg #[.int .i64 b.1, .int .i64 b.2.1, .string b.2.2], .agg #[.int .i64 c.1, .int .i64 c.2.1, .string c.2.2]] w (Ret fun v w' => v = .bool true ∧ Ext w w') := by
  apply calls3
  unfold S3
  refine new_i fun r1 w1 hb1 he1 _ _ => ?_
  refine new_i fun r2 w2 hb2 he2 _ _ => ?_
  refine new_i fun r3 w3 hb3 he3 _ _ => ?_
  have hb1 : Blk w3 r1 (cellE.f a) 23 := (hb1.ext he2).ext he3
  have hb2 : Blk w3 r2 (cellE.f b) 23 := hb2.ext he3
  have hb3 : Blk w3 r3 (cellE.f c) 23 := hb3
  have hx3 := (he1.trans he2).trans he3
  refine callW_of (lives_calls (hp.ext hx3)) ?_
  rintro _ w4 ⟨rfl, he4⟩
  have hx4 := hx3.trans he4
  have hb1 := hb1.ext he4
  have hb2 := hb2.ext he4
  have hb3 := hb3.ext he4
  refine ⟨_, rfl, splitW_f (by rfl) ?_⟩
  refine boxF (l := .str) 2 a.2.2 hb1 (by rfl) (splitW_i (fun _ => ⟨rfl, hx4⟩) fun _ => ?_)
  refine boxF (l := .str) 2 b.2.2 hb2 (by rfl) (splitW_i (fun _ => ⟨rfl, hx4⟩) fun _ => ?_)
  refine boxF (l := .str) 2 c.2.2 hb3 (by rfl) (splitW_i (fun _ => ⟨rfl, hx4⟩) fun _ => ?_)
  refine draw_i fun w5 he5 _ _ => ?_
  have hx5 := hx4.trans he5
  have hb1 := hb1.ext he5
  have hb2 := hb2.ext he5
  have hb3 := hb3.ext he5
  refine boxA (ls := [.int .i64, .int .i64, .str]) (cT a) hb1 rfl (boxA (ls := [.int .i64, .int .i64, .str]) (cT b) hb2 rfl (boxA (ls := [.int .i64, .int .i64, .str]) (cT b) hb2 rfl (boxA (ls := [.int .i64, .int .i64, .str]) (cT c) hb3 rfl (boxA (ls := [.int .i64, .int .i64, .str]) (cT a) hb1 rfl (boxA (ls := [.int .i64, .int .i64, .str]) (cT c) hb3 rfl ?_)))))
  refine callW_of (vcmp_calls w5 a b) ?_
  rintro _ w6 ⟨rfl, he6⟩
  have hx6 := hx5.trans he6
  have hb1 := hb1.ext he6
  have hb2 := hb2.ext he6
  have hb3 := hb3.ext he6
  refine ⟨_, rfl, heldc (hlB hb3) (heldc (hlB hb1) (heldc (hlB hb3) (heldc (hlB hb2) (held0 ?_))))⟩
  refine callW_of (vcmp_calls w6 b c) ?_
  rintro _ w7 ⟨rfl, he7⟩
  have hx7 := hx6.trans he7
  have hb1 := hb1.ext he7
  have hb2 := hb2.ext he7
  have hb3 := hb3.ext he7
  refine ⟨_, rfl, heldc (hlB hb3) (heldc (hlB hb1) (held0 ?_))⟩
  refine callW_of (vcmp_calls w7 a c) ?_
  rintro _ w8 ⟨rfl, he8⟩
  have hx8 := hx7.trans he8
  have hb1 := hb1.ext he8
  have hb2 := hb2.ext he8
  have hb3 := hb3.ext he8
  refine ⟨_, rfl, ?_⟩
  refine joinW_s (fun _ w' => Ext w8 w') ?_ (fun J hJ => ?_)
  · rintro _ w9 he9
    have hx9 := hx8.trans he9
    have hb1 := hb1.ext he9
    have hb2 := hb2.ext he9
    have hb3 := hb3.ext he9
    refine boxA (ls := [.int .i64, .int .i64, .str]) (cT a) hb1 rfl ?_
    refine new_i fun r26 w10 hb26 he10 _ _ => ?_
    have hx10 := hx9.trans he10
    have hb1 := hb1.ext he10
    have hb2 := hb2.ext he10
    have hb3 := hb3.ext he10
    refine boxA (ls := [.int .i64, .int .i64, .str]) (cT b) hb2 rfl ?_
    refine new_i fun r28 w11 hb28 he11 _ _ => ?_
    have hx11 := hx10.trans he11
    have hb1 := hb1.ext he11
    have hb2 := hb2.ext he11
    have hb3 := hb3.ext he11
    refine callW_of (vrows_calls (a := [a]) (b := [b]) (Sli.of_blk (hb26.ext he11) rfl (by omega)) (Sli.of_blk hb28 rfl (by omega))) ?_
    rintro _ w12 ⟨rfl, he12⟩
    have hx12 := hx11.trans he12
    have hb1 := hb1.ext he12
    have hb2 := hb2.ext he12
    have hb3 := hb3.ext he12
    rw [cmpR_1]
    refine ⟨_, rfl, splitW_t (beq_self_eq_true _) ?_⟩
    refine boxA (ls := [.int .i64, .int .i64, .str]) (cT a) hb1 rfl (boxA (ls := [.int .i64, .int .i64, .str]) (cT b) hb2 rfl ?_)
    refine new_i fun r32 w13 hb32 he13 _ _ => ?_
    have hx13 := hx12.trans he13
    have hb1 := hb1.ext he13
    have hb2 := hb2.ext he13
    have hb3 := hb3.ext he13
    refine boxA (ls := [.int .i64, .int .i64, .str]) (cT a) hb1 rfl (boxA (ls := [.int .i64, .int .i64, .str]) (cT c) hb3 rfl ?_)
    refine new_i fun r35 w14 hb35 he14 _ _ => ?_
    have hx14 := hx13.trans he14
    have hb1 := hb1.ext he14
    have hb2 := hb2.ext he14
    refine callW_of (vrows_calls (a := [a, b]) (b := [a, c]) (Sli.of_blk (hb32.ext he14) rfl (by omega)) (Sli.of_blk hb35 rfl (by omega))) ?_
    rintro _ w15 ⟨rfl, he15⟩
    have hx15 := hx14.trans he15
    have hb1 := hb1.ext he15
    have hb2 := hb2.ext he15
    rw [cmpR_2]
    refine ⟨_, rfl, splitW_t (beq_self_eq_true _) ?_⟩
    refine boxA (ls := [.int .i64, .int .i64, .str]) (cT a) hb1 rfl ?_
    refine new_i fun r38 w16 hb38 he16 _ _ => ?_
    have hx16 := hx15.trans he16
    have hb1 := hb1.ext he16
    have hb2 := hb2.ext he16
    refine boxA (ls := [.int .i64, .int .i64, .str]) (cT a) hb1 rfl (boxA (ls := [.int .i64, .int .i64, .str]) (cT b) hb2 rfl ?_)
    refine new_i fun r41 w17 hb41 he17 _ _ => ?_
    have hx17 := hx16.trans he17
    refine callW_of (vrows_calls (a := [a]) (b := [a, b]) (Sli.of_blk (hb38.ext he17) rfl (by omega)) (Sli.of_blk hb41 rfl (by omega))) ?_
    rintro _ w18 ⟨rfl, he18⟩
    rw [cmpR_3]
    exact ⟨_, rfl, rfl, hx17.trans he18⟩
  refine boxA (ls := [.int .i64, .int .i64, .str]) (cT b) hb2 rfl (boxA (ls := [.int .i64, .int .i64, .str]) (cT a) hb1 rfl ?_)
  refine callW_of (vcmp_calls w8 b a) ?_
  rintro _ w9 ⟨rfl, he9⟩
  have hb1 := hb1.ext he9
  have hb2 := hb2.ext he9
  have hr := cmpC_range b a
  have hn := cmpC_neg b a
  refine ⟨_, rfl, splitW_f (bne_eq_false_iff_eq.2 (by rw [wrap_i64 (by omega) (by omega)]; omega)) ?_⟩
  refine boxA (ls := [.int .i64, .int .i64, .str]) (cT a) hb1 rfl (boxA (ls := [.int .i64, .int .i64, .str]) (cT b) hb2 rfl ?_)
  refine ⟨cellEq a b, fun w' => eql_cell w' a b _ _, ?_⟩
  have hz : (cmpC a b == 0) = cellEq a b := by
    apply Bool.eq_iff_iff.2
    rw [cellEq_iff, beq_iff_eq]
    exact ⟨cmpC_zero, fun e => by rw [e, cmpC_self]⟩
  refine splitW_f (by rw [hz]; cases cellEq a b <;> rfl) ?_
  refine splitW_i (fun h1 => splitW_i (fun h2 => ?_) (fun _ => hJ _ _ he9)) (fun _ => hJ _ _ he9)
  have := cmpC_trans (of_decide_eq_true h1) (of_decide_eq_true h2)
  exact splitW_f (decide_eq_false (by omega)) (hJ _ _ he9)
end Go.Proofs.YtlpniinmomhkcaaDoor.V
