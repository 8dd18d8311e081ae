/- Laws of chapter 11: SuperCalls, SuperBack. -/
import Derived.Test.YtiiemgndnpflbaaL
set_option linter.unusedVariables false
set_option linter.unusedSimpArgs false
namespace Go.Proofs.Ytiiemgndnpflbaa.V
open Go Go.Proofs Go.RowKit Crc

theorem heldN {w : World} {l : List (Addr × Value)} {K : WP} (h : ∀ p ∈ l, w.cell? p.1 = some p.2) (hK : K w) : heldW [l] K w := by
  refine ⟨fun l' hl p hp => ?_, hK⟩
  simp only [List.mem_singleton] at hl
  subst hl
  exact h p hp
theorem scalls_calls {w : World} {s : Sup} {x : SLC} (hf : s.Fits) (hp : Pg w x s.pages) {a b : ByteArray} (ha : a.size ≤ 9223372036854775807) (hb : b.size ≤ 9223372036854775807) {gs gb slot : Int} :
    Calls Try.prog 6 #[.agg (sV s x).toArray, .string a, .string b, .agg #[.int .i64 gs, .int .i64 gb], .int .i64 slot] w (Ret fun v w' => v = .bool true ∧ Ext w w') := by
  apply calls6
  unfold S6
  refine new_i fun r1 w1 hb1 he1 _ _ => ?_
  have hb1 : Blk w1 r1 (sV s x) 28 := hb1
  refine new_i fun r2 w2 hb2 he2 _ _ => ?_
  have hb2 : Blk w2 r2 [.int .i64 gs, .int .i64 gb] 24 := hb2
  have hb1 := hb1.ext he2
  have he := he1.trans he2
  refine callW_of (lives_calls w2) ?_
  rintro _ w3 ⟨rfl, he3⟩
  refine ⟨_, rfl, splitW_f (by rfl) ?_⟩
  have hb1 := hb1.ext he3
  have hb2 := hb2.ext he3
  have he := he.trans he3
  have hp := hp.ext he
  refine boxF 4 x hb1 (by rfl) ?_
  refine splitW_i (fun _ => ⟨rfl, he⟩) (fun _ => splitW_i (fun _ => ⟨rfl, he⟩) (fun _ => splitW_i (fun _ => ⟨rfl, he⟩) (fun _ => ?_)))
  refine boxA (ls := sLs) (sT s x) hb1 rfl ?_
  refine callW_of (sput_calls hf hp) ?_
  rintro _ w4 ⟨rfl, he4⟩
  refine ⟨(⟨(putS s).1.toArray⟩, (putS s).2, ()), rfl, ?_⟩
  have hb1 := hb1.ext he4
  have hp := hp.ext he4
  refine boxA (ls := sLs) (sT s x) hb1 rfl ?_
  refine callW_of (rsput_calls hf hp) ?_
  rintro _ w5 ⟨rfl, he5⟩
  refine ⟨(⟨(putS s).1.toArray⟩, (putS s).2, ()), rfl, ?_⟩
  have hb1 := hb1.ext he5
  have he := (he.trans he4).trans he5
  have hb2 := (hb2.ext he4).ext he5
  have hp := hp.ext he5
  refine callW_of (sget_calls w5 a ha) ?_
  rintro _ w6 ⟨x9, rfl, hp9, he6, _⟩
  refine ⟨(sT (getS (B a)).1 x9, (getS (B a)).2, ()), rfl, ?_⟩
  refine boxedS (s := (getS (B a)).1) (x := x9) rfl fun r10 w7 hb10 he7 _ => ?_
  have he := (he.trans he6).trans he7
  refine callW_of (rsget_calls w7 a ha) ?_
  rintro _ w8 ⟨x11, rfl, hp11, he8, _⟩
  refine ⟨(sT (getS (B a)).1 x11, (getS (B a)).2, ()), rfl, ?_⟩
  refine boxedS (s := (getS (B a)).1) (x := x11) rfl fun r12 w9 hb12 he9 _ => ?_
  have he := (he.trans he8).trans he9
  refine callW_of (choose_calls w9 a b ha hb) ?_
  rintro _ w10 ⟨x13, rfl, hp13, he10, _⟩
  refine ⟨((chooseS (B a) (B b)).1, sT (chooseS (B a) (B b)).2.1 x13, (chooseS (B a) (B b)).2.2, ()), rfl, ?_⟩
  refine boxedS (s := (chooseS (B a) (B b)).2.1) (x := x13) rfl fun r14 w11 hb14 he11 _ => ?_
  have he := (he.trans he10).trans he11
  refine callW_of (rchoose_calls w11 a b ha hb) ?_
  rintro _ w12 ⟨x15, rfl, hp15, he12, _⟩
  refine ⟨((chooseS (B a) (B b)).1, sT (chooseS (B a) (B b)).2.1 x15, (chooseS (B a) (B b)).2.2, ()), rfl, ?_⟩
  refine boxedS (s := (chooseS (B a) (B b)).2.1) (x := x15) rfl fun r16 w13 hb16 he13 _ => ?_
  have he := (he.trans he12).trans he13
  have e6 : Ext w5 w13 := ((((((he6.trans he7).trans he8).trans he9).trans he10).trans he11).trans he12).trans he13
  have e7 : Ext w7 w13 := (((((he8.trans he9).trans he10).trans he11).trans he12).trans he13)
  have e9 : Ext w9 w13 := (((he10.trans he11).trans he12).trans he13)
  have e11 : Ext w11 w13 := he12.trans he13
  have hb1 := hb1.ext e6
  have hb2 := hb2.ext e6
  have hp := hp.ext e6
  have hb10 := hb10.ext e7
  have hp9 := (hp9.ext he7).ext e7
  have hb12 := hb12.ext e9
  have hp11 := (hp11.ext he9).ext e9
  have hb14 := hb14.ext e11
  have hp13 := (hp13.ext he11).ext e11
  have hp15 := hp15.ext he13
  clear e6 e7 e9 e11 he1 he2 he3 he4 he5 he6 he7 he8 he9 he10 he11 he12 he13
  dsimp only
  refine joinW_s (fun (y : Bool × Unit) w' => y.1 = true ∧ Ext w w') ?_ (fun J hJ => ?_)
  · rintro ⟨y, _⟩ w' ⟨h, he⟩
    dsimp only at h
    subst h
    exact ⟨rfl, he⟩
  refine draw_i fun w14 he14 _ _ => ?_
  have he := he.trans he14
  refine splitW_t (by simp) (splitW_t (by simp) ?_)
  refine boxA (ls := sLs) (sT _ x9) (hb10.ext he14) rfl (boxA (ls := sLs) (sT _ x11) (hb12.ext he14) rfl ?_)
  refine callW_of (ssame_calls (hp9.ext he14) (hp11.ext he14)) ?_
  rintro _ w15 ⟨rfl, he15⟩
  refine ⟨_, rfl, splitW_t (by simp) (splitW_t (by simp) (splitW_t (by simp) ?_))⟩
  have he := he.trans he15
  have he15 := he14.trans he15
  refine boxA (ls := sLs) (sT _ x13) (hb14.ext he15) rfl (boxA (ls := sLs) (sT _ x15) (hb16.ext he15) rfl ?_)
  refine callW_of (ssame_calls (hp13.ext he15) (hp15.ext he15)) ?_
  rintro _ w16 ⟨rfl, he16⟩
  refine ⟨_, rfl, splitW_t (by simp) (splitW_t (by simp) ?_)⟩
  have he := he.trans he16
  have he16 := he15.trans he16
  have hb1 := hb1.ext he16
  refine boxA (ls := sLs) (sT s x) hb1 rfl (boxA (ls := sLs) (sT s x) hb1 rfl ?_)
  refine callW_of (check_calls hf (hp.ext he16)) ?_
  rintro _ w17 ⟨rfl, he17⟩
  refine ⟨_, rfl, ?_⟩
  have he := he.trans he17
  have he17 := he16.trans he17
  have hb1 : Blk w17 r1 (sV s x) 28 := hb1.ext (by assumption)
  refine heldN (fun p hp => ?_) ?_
  · simp only [List.mem_cons, List.not_mem_nil, or_false] at hp
    rcases hp with rfl | rfl | rfl | rfl | rfl <;> (rw [add_mk, hb1.cell]; rfl)
  refine callW_of (rcheck_calls hf (hp.ext he17)) ?_
  rintro _ w18 ⟨rfl, he18⟩
  refine ⟨_, rfl, splitW_t (by simp) ?_⟩
  have he := he.trans he18
  have he18 := he17.trans he18
  have hb2 := hb2.ext he18
  refine boxA (ls := [.int .i64, .int .i64]) (gs, gb, ()) hb2 rfl (boxA (ls := [.int .i64, .int .i64]) (gs, gb, ()) hb2 rfl ?_)
  refine callW_of (pages_calls w18 gs gb) ?_
  rintro _ w19 ⟨rfl, he19⟩
  refine ⟨_, rfl, ?_⟩
  have he := he.trans he19
  have hb2 := hb2.ext he19
  refine heldN (fun p hp => ?_) ?_
  · simp only [List.mem_cons, List.not_mem_nil, or_false] at hp
    rcases hp with rfl | rfl <;> (rw [add_mk, hb2.cell]; rfl)
  refine callW_of (rpages_calls w19 gs gb) ?_
  rintro _ w20 ⟨rfl, he20⟩
  refine ⟨_, rfl, splitW_t (by simp) ?_⟩
  have he := he.trans he20
  refine callW_of (other_calls w20 slot) ?_
  rintro _ w20 ⟨rfl, hw⟩
  subst hw
  refine ⟨_, rfl, ?_⟩
  refine callW_of (rother_calls w20 slot) ?_
  rintro _ w20 ⟨rfl, hw⟩
  subst hw
  refine ⟨_, rfl, hJ _ _ ⟨by simp, he⟩⟩
theorem sback_calls {w : World} {s : Sup} {x : SLC} (hf : s.Fits) (hp : Pg w x s.pages) {a : ByteArray} (ha : a.size ≤ 9223372036854775807) :
    Calls Try.prog 4 #[.agg (sV s x).toArray, .string a] w (Ret fun v w' => v = .bool true ∧ Ext w w') := by
  apply calls4
  unfold S4
  refine new_i fun r1 w1 hb1 he1 _ _ => ?_
  have hb1 : Blk w1 r1 (sV s x) 28 := hb1
  refine callW_of (lives_calls w1) ?_
  rintro _ w2 ⟨rfl, he2⟩
  refine ⟨_, rfl, splitW_f (by rfl) ?_⟩
  have hb1 := hb1.ext he2
  have he := he1.trans he2
  have hp := hp.ext he
  refine boxF 4 x hb1 (by rfl) ?_
  refine splitW_i (fun _ => ⟨rfl, he⟩) (fun _ => splitW_i (fun _ => ⟨rfl, he⟩) (fun _ => ?_))
  refine boxA (ls := sLs) (sT s x) hb1 rfl ?_
  refine callW_of (sput_calls hf hp) ?_
  rintro _ w3 ⟨rfl, he3⟩
  refine ⟨(mk (putS s).1, (putS s).2, ()), rfl, ?_⟩
  have hb1 := hb1.ext he3
  have hp := hp.ext he3
  have he := he.trans he3
  dsimp only
  refine joinW_s (fun _ w' => Ext w w') ?_ (fun J hJ => ?_)
  · rintro _ w4 he
    refine callW_of (sget_calls w4 a ha) ?_
    rintro _ w5 ⟨y, rfl, hpy, he5, _⟩
    refine ⟨(sT (getS (B a)).1 y, (getS (B a)).2, ()), rfl, ?_⟩
    refine boxedS (s := (getS (B a)).1) (x := y) rfl fun r15 w6 hb15 he6 _ => ?_
    have hpy := hpy.ext he6
    have ly := hpy.len
    have he := (he.trans he5).trans he6
    dsimp only
    refine splitW_i (fun hz => ?_) (fun hz => ?_)
    · have hz := bne_iff_ne.1 hz
      rw [getS_bad hz] at hb15 ly
      refine boxF 4 y hb15 (by rfl) ⟨?_, he⟩
      have : y.2.1 = 0 := ly.symm
      rw [this]
      rfl
    have hz := bne_eq_false_iff_eq.1 hz
    obtain ⟨hput, hfit⟩ := getS_ok hz
    generalize (getS (B a)).1 = q at *
    have hc := putS_ok (s := q) (by rw [hput])
    obtain ⟨hh, hgood, h14⟩ := chk_ok hc
    obtain ⟨g0, g1, g2, g3, g4⟩ := geo_room hh.1
    refine boxA (ls := sLs) (sT q y) hb15 rfl ?_
    refine callW_of (sput_calls hfit hpy) ?_
    rintro _ w7 ⟨rfl, he7⟩
    rw [hput]
    refine ⟨(mk (B a), 0, ()), rfl, ?_⟩
    dsimp only
    have hb15 := hb15.ext he7
    have he := he.trans he7
    refine draw_i fun w8 he8 _ _ => ?_
    have hb15 := hb15.ext he8
    have he := he.trans he8
    refine boxF 4 y hb15 (by rfl) (boxF 1 q.size hb15 (by rfl) ?_)
    refine callW_of (refroom_calls w8 q.size) ?_
    rintro _ w9 ⟨rfl, he9⟩
    refine ⟨_, rfl, ?_⟩
    have hb15 := hb15.ext he9
    have he := he.trans he9
    refine heldF hb15 (by rfl) (splitW_t (by rfl) (splitW_t (by rw [str_beq, B_mk']; simp) ?_))
    refine boxAt (ls := [.int .i64, .int .i64]) (q.size, q.blocks, ()) hb15 (by rfl) ?_
    refine callW_of (pages_calls w9 q.size q.blocks) ?_
    rintro _ w10 ⟨rfl, he10⟩
    refine ⟨_, rfl, ?_⟩
    have hb15 := hb15.ext he10
    have he := he.trans he10
    have hn := hh.2.2.2
    have hpd : pagesOf q.size q.blocks = (2 * q.blocks + (q.size - 16) - 1) / (q.size - 16) := by unfold pagesOf; rw [if_pos hh.1, g0]
    have hn2 : (y.2.1 : Int) = (2 * q.blocks + (q.size - 16) - 1) / (q.size - 16) := by rw [← hpd, ← hn, ly]
    have hlo : 2 * q.blocks ≤ (y.2.1 : Int) * (q.size - 16) := by
      have := Int.lt_ediv_add_one_mul_self (2 * q.blocks + (q.size - 16) - 1) (show 0 < q.size - 16 by omega)
      rw [← hn2, Int.add_mul] at this
      omega
    have hhi : (y.2.1 : Int) * (q.size - 16) ≤ 2 * q.blocks + (q.size - 16) - 1 := by
      have := Int.ediv_mul_le (2 * q.blocks + (q.size - 16) - 1) (show q.size - 16 ≠ 0 by omega)
      rw [← hn2] at this
      exact this
    have hm1 : ((y.2.1 : Int) - 1) * (q.size - 16) = (y.2.1 : Int) * (q.size - 16) - (q.size - 16) := by rw [Int.sub_mul]; omega
    have hyb : (y.2.1 : Int) ≤ 20000 := by have := pagesOf_le (size := q.size) (blocks := q.blocks); omega
    refine splitW_t (by rw [beq_iff_eq]; omega) ?_
    refine boxF2 q.blocks hb15 (by rfl) ?_
    rw [g0, wrap_i64 (x := (y.2.1 : Int) * (q.size - 16)) (by omega) (by omega), wrap_i64 (x := 2 * q.blocks) (by omega) (by omega)]
    refine splitW_t (decide_eq_true (by omega)) ?_
    refine boxF2 q.blocks hb15 (by rfl) ?_
    rw [wrap_i64 (x := (y.2.1 : Int) - 1) (by omega) (by omega), hm1, wrap_i64 (by omega) (by omega), wrap_i64 (x := 2 * q.blocks) (by omega) (by omega)]
    exact ⟨by rw [decide_eq_true (show _ < _ by omega)], he⟩
  · refine splitW_i (fun hz => ?_) (fun hz => hJ _ _ he)
    have hz := beq_iff_eq.1 hz
    have hc := putS_ok hz
    refine callW_of (sget_calls w3 _ putS_mk) ?_
    rintro _ w4 ⟨y, rfl, hpy, he4, _⟩
    rw [B_mk', getS_putS hf hc]
    rw [B_mk', getS_putS hf hc] at hpy
    refine ⟨(sT s y, 0, ()), rfl, ?_⟩
    dsimp only
    refine boxedS (s := s) (x := y) rfl fun r9 w5 hb9 he5 _ => ?_
    refine splitW_f (by rfl) ?_
    have he45 := he4.trans he5
    have hb1 := hb1.ext he45
    refine boxA (ls := sLs) (sT s x) hb1 rfl (boxA (ls := sLs) (sT s y) hb9 rfl ?_)
    refine callW_of (ssame_calls (hp.ext he45) (hpy.ext he5)) ?_
    rintro _ w6 ⟨rfl, he6⟩
    refine ⟨_, rfl, splitW_f (by simp) ?_⟩
    refine boxF 1 s.size (hb1.ext he6) (by rfl) ?_
    refine splitW_f ?_ (hJ _ _ ((he.trans he45).trans he6))
    rw [mk_size', bne_eq_false_iff_eq]
    exact (putS_length hc).1
end Go.Proofs.Ytiiemgndnpflbaa.V
