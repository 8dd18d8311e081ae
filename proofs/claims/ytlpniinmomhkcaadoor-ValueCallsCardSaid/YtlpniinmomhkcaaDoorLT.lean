/- ValueTexts: the law's walk. -/
import Derived.Test.YtlpniinmomhkcaaDoorKTxt
import Derived.Test.YtlpniinmomhkcaaDoorKRows
set_option linter.unusedVariables false
set_option linter.unusedSimpArgs false
namespace Go.Proofs.YtlpniinmomhkcaaDoor.V
open Go Go.Proofs Go.RowKit

theorem quo_len (s : List UInt8) : (quo s).length ≤ 4 * s.length + 2 := by
  have := flat_len s
  unfold quo
  simp only [List.length_cons, List.length_append, List.length_nil]
  omega
theorem dec_len (u : Nat) : ∀ k, u < 10 ^ k → 0 < k → (Lib.decDigits u).length ≤ k := by
  induction u using Nat.strongRecOn with
  | ind u ih =>
    intro k hk h0
    rw [Lib.decDigits]
    by_cases h : u < 10
    · rw [dif_pos h]; simp; omega
    · rw [dif_neg h]
      cases k with
      | zero => omega
      | succ k =>
        have hk' : u / 10 < 10 ^ k := by rw [Nat.pow_succ] at hk; omega
        have hk0 : 0 < k := by
          rcases Nat.eq_zero_or_pos k with e | e
          · subst e; simp at hk; omega
          · exact e
        have := ih (u / 10) (by omega) k hk' hk0
        simp
        omega
theorem itoa_len {z : Int} (h0 : -9223372036854775808 ≤ z) (h1 : z < 9223372036854775808) : (Lib.itoa z).length ≤ 20 := by
  unfold Lib.itoa
  split
  · have := dec_len z.natAbs 19 (by omega) (by omega)
    simp
    omega
  · have := dec_len z.toNat 19 (by omega) (by omega)
    omega
theorem txt_len {c : Cell} (q : cellQ c) : (txt c).length ≤ 2000 := by
  unfold txt
  by_cases h : cellOK c = true
  · rw [if_pos h]
    have hq := quo_len (B c.2.2)
    have hi := itoa_len q.2.1.1 q.2.1.2
    split
    · decide
    · split
      · omega
      · split
        · split <;> decide
        · rename_i h0 h1 h2
          have k3 : c.1 = 3 := by rcases cellOK_kind h with e | e | e | e <;> first | exact absurd e h0 | exact absurd e h1 | exact absurd e h2 | exact e
          have := (ok3 h k3).2
          omega
  · rw [if_neg h]; simp
theorem readC_txt {c : Cell} (h : cellOK c = true) (q : cellQ c) : readC (txt c) = some c := by
  unfold readC
  rw [cand_txt h q, if_pos ⟨txt_ne h, rfl⟩]
theorem readC_some {s : List UInt8} {c : Cell} (hs : s.length ≤ 9223372036854775807) (h : readC s = some c) : cellOK c = true ∧ txt c = s ∧ cellQ c := by
  unfold readC at h
  split at h
  · rename_i hh
    injection h with h
    subst h
    refine ⟨?_, hh.2, candF_q hs⟩
    by_cases hk : cellOK (candF s) = true
    · exact hk
    · exfalso
      have h2 := hh.2
      unfold txt at h2
      rw [if_neg hk] at h2
      exact hh.1 h2.symm
  · cases h
theorem texts_calls {w : World} (hp : Pow w) (hse : Sen w) (a b : Cell) (s : ByteArray) (qa : cellQ a) (qb : cellQ b) : Calls Tryd.prog 6 #[.agg #[.int .i64 a.1, .int .i64 a.2.1, .string a.2.2], .agg #[.int .i64 b.1, .int .i64 b.2.1, .string b.2.2], .string s] w (Ret fun v w' => v = .bool true ∧ Ext w w') := by
  apply calls6
  unfold S6
  refine new_i fun r1 w1 hb1 he1 _ _ => ?_
  refine new_i fun r2 w2 hb2 he2 _ _ => ?_
  have hb1 : Blk w2 r1 (cellE.f a) 23 := hb1.ext he2
  have hb2 : Blk w2 r2 (cellE.f b) 23 := hb2
  have hx2 := he1.trans he2
  refine callW_of (lives_calls (hp.ext hx2)) ?_
  rintro _ w3 ⟨rfl, he3⟩
  have hx3 := hx2.trans he3
  have hb1 := hb1.ext he3
  have hb2 := hb2.ext he3
  refine ⟨_, rfl, splitW_f (by rfl) ?_⟩
  refine boxA (ls := [.int .i64, .int .i64, .str]) (cT a) hb1 rfl (boxA (ls := [.int .i64, .int .i64, .str]) (cT b) hb2 rfl ?_)
  refine new_i fun r6 w4 hb6 he4 _ _ => ?_
  have hx4 := hx3.trans he4
  have hb1 := hb1.ext he4
  have hb2 := hb2.ext he4
  refine callW_of (may_calls (row := [a, b]) (Sli.of_blk hb6 rfl (by omega)) (by
    intro c hc
    rcases List.mem_cons.1 hc with rfl | hc
    · exact qa
    · rw [List.mem_singleton.1 hc]; exact qb)) ?_
  rintro _ w5 ⟨⟨q, rfl, hq⟩, he5⟩
  have hx5 := hx4.trans he5
  have hb1 := hb1.ext he5
  have hb2 := hb2.ext he5
  refine ⟨_, rfl, splitW_i (fun _ => ⟨rfl, hx5⟩) fun hm => ?_⟩
  obtain ⟨_, hk⟩ := hq (by simpa using hm)
  have ka := hk a (by simp)
  have kb := hk b (by simp)
  refine splitW_i (fun _ => ⟨rfl, hx5⟩) fun hlen => ?_
  have hlen := of_decide_eq_false hlen
  have hsz := B_size s
  refine boxA (ls := [.int .i64, .int .i64, .str]) (cT a) hb1 rfl ?_
  refine callW_of (vtext_calls (hp.ext hx5) qa) ?_
  rintro _ w6 ⟨rfl, he6⟩
  have hx6 := hx5.trans he6
  have hb1 := hb1.ext he6
  have hb2 := hb2.ext he6
  refine ⟨_, rfl, ?_⟩
  have hlt := txt_len qa
  refine callW_of (read_calls (hp.ext hx6) (hse.ext hx6) (mkB (txt a)) (by rw [mkB_size]; omega)) ?_
  rw [B_mkB, readC_txt ka qa]
  rintro _ w7 ⟨rfl, he7⟩
  have hx7 := hx6.trans he7
  have hb1 := hb1.ext he7
  have hb2 := hb2.ext he7
  refine ⟨(cT a, 0, ()), rfl, ?_⟩
  refine box_i (vs := cellE.f a) (by rfl) (cellE.one a) ?_ (by rfl)
  intro r11 w8 hb11 he8 _
  have hx8 := hx7.trans he8
  have hb1 := hb1.ext he8
  have hb2 := hb2.ext he8
  refine callW_of (read_calls (hp.ext hx8) (hse.ext hx8) s (by omega)) ?_
  rintro _ w9 ⟨rfl, he9⟩
  have hx9 := hx8.trans he9
  have hb1 := hb1.ext he9
  have hb2 := hb2.ext he9
  have hb11 := hb11.ext he9
  have hrs : ∀ c, readC (B s) = some c → cellOK c = true ∧ txt c = B s ∧ cellQ c := fun c hc => readC_some (by omega) hc
  generalize hR : readC (B s) = R at hrs
  obtain ⟨d, e, hd⟩ : ∃ (d : Cell) (e : Int), rdV R = (cT d, e, ()) := by
    cases R with
    | none => exact ⟨cell0, 160, rfl⟩
    | some c => exact ⟨c, 0, rfl⟩
  rw [hd]
  refine ⟨(cT d, e, ()), rfl, ?_⟩
  refine box_i (vs := cellE.f d) (by rfl) (cellE.one d) ?_ (by rfl)
  intro r13 w10 hb13 he10 _
  have hx10 := hx9.trans he10
  have hb1 := hb1.ext he10
  have hb2 := hb2.ext he10
  have hb11 := hb11.ext he10
  refine draw_i fun w11 he11 _ _ => ?_
  have hx11 := hx10.trans he11
  have hb1 := hb1.ext he11
  have hb2 := hb2.ext he11
  have hb11 := hb11.ext he11
  have hb13 := hb13.ext he11
  refine splitW_f (by rfl) ?_
  refine boxA (ls := [.int .i64, .int .i64, .str]) (cT a) hb11 rfl (boxA (ls := [.int .i64, .int .i64, .str]) (cT a) hb1 rfl ?_)
  refine ⟨_, fun w' => neq_cell w' a a _ _, ?_⟩
  rw [cellEq_iff.2 rfl]
  refine splitW_f (by rfl) ?_
  refine boxA (ls := [.int .i64, .int .i64, .str]) (cT a) hb1 rfl (boxA (ls := [.int .i64, .int .i64, .str]) (cT b) hb2 rfl (boxA (ls := [.int .i64, .int .i64, .str]) (cT a) hb1 rfl (boxA (ls := [.int .i64, .int .i64, .str]) (cT b) hb2 rfl ?_)))
  refine ⟨_, fun w' => eql_cell w' a b _ _, ?_⟩
  refine callW_of (vtext_calls (hp.ext hx11) qa) ?_
  rintro _ w12 ⟨rfl, he12⟩
  have hx12 := hx11.trans he12
  have hb1 := hb1.ext he12
  have hb2 := hb2.ext he12
  have hb13 := hb13.ext he12
  refine ⟨_, rfl, heldc (hlB hb2) (heldc (hlB hb1) (heldc (hlB hb2) (held0 ?_)))⟩
  refine callW_of (vtext_calls (hp.ext hx12) qb) ?_
  rintro _ w13 ⟨rfl, he13⟩
  have hx13 := hx12.trans he13
  have hb1 := hb1.ext he13
  have hb2 := hb2.ext he13
  have hb13 := hb13.ext he13
  refine ⟨_, rfl, heldc (hlB hb2) (heldc (hlB hb1) (held0 ?_))⟩
  rw [str_beq, B_mkB, B_mkB]
  have heq : decide (txt a = txt b) = cellEq a b := by
    apply Bool.eq_iff_iff.2
    rw [cellEq_iff, decide_eq_true_iff]
    exact ⟨txt_inj ka kb qa qb, fun h => by rw [h]⟩
  refine splitW_f (by rw [heq]; cases cellEq a b <;> rfl) ?_
  cases R with
  | none =>
    have hd0 : d = cell0 ∧ e = 160 := by
      have h1 := congrArg (fun x => x.2.1) hd
      have h2 := congrArg (fun x => x.1) hd
      refine ⟨?_, h1.symm⟩
      have h3 : cT cell0 = cT d := h2
      obtain ⟨d1, d2, d3⟩ := d
      have e1 := congrArg (fun x => x.1) h3
      have e2 := congrArg (fun x => x.2.1) h3
      have e3 := congrArg (fun x => x.2.2.1) h3
      dsimp only [cT] at e1 e2 e3
      rw [← e1, ← e2, ← e3]
    obtain ⟨rfl, rfl⟩ := hd0
    refine splitW_t (by rfl) ?_
    refine boxA (ls := [.int .i64, .int .i64, .str]) (cT cell0) hb13 rfl ?_
    exact ⟨_, fun w' => eql_cell w' cell0 cell0 _ _, by rw [cellEq_iff.2 rfl], hx13⟩
  | some c =>
    have hd0 : d = c ∧ e = 0 := by
      have h1 := congrArg (fun x => x.2.1) hd
      have h2 := congrArg (fun x => x.1) hd
      refine ⟨?_, h1.symm⟩
      have h3 : cT c = cT d := h2
      obtain ⟨d1, d2, d3⟩ := d
      obtain ⟨c1, c2, c3⟩ := c
      have e1 := congrArg (fun x => x.1) h3
      have e2 := congrArg (fun x => x.2.1) h3
      have e3 := congrArg (fun x => x.2.2.1) h3
      dsimp only [cT] at e1 e2 e3
      rw [e1, e2, e3]
    obtain ⟨rfl, rfl⟩ := hd0
    obtain ⟨kd, ht, qd⟩ := hrs d rfl
    refine splitW_f (by rfl) ?_
    refine boxA (ls := [.int .i64, .int .i64, .str]) (cT d) hb13 rfl ?_
    refine callW_of (vcheck_calls w13 qd) ?_
    rintro _ w14 ⟨rfl, he14⟩
    have hx14 := hx13.trans he14
    have hb13 := hb13.ext he14
    refine ⟨_, rfl, splitW_t (by unfold cellE'; rw [if_pos kd]; rfl) ?_⟩
    refine boxA (ls := [.int .i64, .int .i64, .str]) (cT d) hb13 rfl ?_
    refine callW_of (vtext_calls (hp.ext hx14) qd) ?_
    rintro _ w15 ⟨rfl, he15⟩
    refine ⟨_, rfl, ?_, hx14.trans he15⟩
    rw [str_beq, B_mkB, ht, decide_eq_true rfl]
end Go.Proofs.YtlpniinmomhkcaaDoor.V
