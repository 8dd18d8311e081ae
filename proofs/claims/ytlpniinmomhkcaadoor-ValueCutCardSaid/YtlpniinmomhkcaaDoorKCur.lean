/- Contracts of the package value: cursors, Unkey. -/
import Derived.Test.YtlpniinmomhkcaaDoorKVal3
import Derived.RangeFuncBox
set_option linter.unusedVariables false
set_option linter.unusedSimpArgs false
namespace Go.Proofs.YtlpniinmomhkcaaDoor.V
open Go Go.Proofs Go.RowKit

/-! ### Worlds in which one block was set -/
abbrev GB (r : Nat) (w w' : World) : Prop := w.grownBy w' (some r)
theorem g_set (w : World) (r i : Nat) (v : Value) : GB r w (w.setCell ⟨r, i, none⟩ v) :=
  ⟨rfl, rfl, rfl, (KeepsWalks.setCell w _ v).size, fun k _ hk => Below.heap_setCell _ _ _ k (fun e => hk (by rw [e]))⟩
theorem g_tr {r : Nat} {a b c : World} (h : GB r a b) (k : GB r b c) : GB r a c := grownBy_tr h k (fun j hj => .inl hj)
theorem g_ext {r : Nat} {a b c : World} (h : GB r a b) (k : Ext b c) : GB r a c := g_tr h (grownBy_of_ext k _)
theorem g_new {r r2 : Nat} {a b c : World} (h : GB r a b) (k : GB r2 b c) (hr : a.heap.size ≤ r2) : GB r a c := grownBy_tr h k (fun j hj => by cases hj; exact .inr hr)
theorem g_below {r B : Nat} {a b c : World} (h : GB r a b) (k : Below B b c) (hB : a.heap.size ≤ B) (hB2 : B ≤ b.heap.size) : GB r a c :=
  ⟨k.os.trans h.os, k.tape.trans h.tape, k.output.trans h.output, Nat.le_trans h.size k.size, fun j hj hne => (k.block j (Nat.lt_of_lt_of_le hj hB)).trans (h.block j hj hne)⟩
theorem g_setCells (r : Nat) : ∀ (vs : List Value) (i : Nat) (w : World), GB r w (setCells w ⟨r, 0, none⟩ i vs)
  | [], i, w => grownBy_refl _ _
  | v :: rest, i, w => by
    simp only [setCells]
    have h1 := g_set w r (0 + i) v
    rw [← add_mk] at h1
    exact g_tr h1 (g_setCells r rest (i + 1) _)
theorem refill_g {w : World} {b n : Nat} {cs vs : List Value} {t : TypeId} {us : Array Value} {K : WP} (h : Blk w b cs t) (hl : vs.length = cs.length) (hv : ∀ v ∈ vs, v.oneCell' = true) (hu : us.size = n)
    (hK : ∀ w', Blk w' b vs t → GB b w w' → K w') : (guardW (us.size = n) <| stAW (⟨b, 0, none⟩ : Addr) vs K) w :=
  ⟨hu, h.storable_from vs 0 (by omega) hv, hK _ (h.setCells vs hl) (g_setCells b vs 0 w)⟩
theorem stF {w : World} {b : Nat} {cs : List Value} {t : TypeId} {v : Value} {K : WP} (o : Nat) (h : Blk w b cs t) (ho : o < cs.length) (hK : ∀ w', Blk w' b (cs.set o v) t → GB b w w' → K w') : stW ((⟨b, 0, none⟩ : Addr).add o) v K w := by
  rw [add_mk, Nat.zero_add]
  exact stW_blk h ho (hK _ (h.set o v) (g_set w b o v))
theorem st0 {w : World} {b : Nat} {cs : List Value} {t : TypeId} {v : Value} {K : WP} (h : Blk w b cs t) (ho : 0 < cs.length) (hK : ∀ w', Blk w' b (cs.set 0 v) t → GB b w w' → K w') : stW (⟨b, 0, none⟩ : Addr) v K w :=
  stW_blk h ho (hK _ (h.set 0 v) (g_set w b 0 v))
theorem blk_g {r b : Nat} {w w' : World} {cs : List Value} {t : TypeId} (h : Blk w b cs t) (hg : GB r w w') (hne : b ≠ r) : Blk w' b cs t := h.grown hg (fun e => hne (Option.some.inj e))
/-! ### Cursors -/
def Cur (w : World) (r : Nat) (s : ByteArray) (bad : Bool) : Prop := Blk w r [.string s, .bool bad] 61
theorem rep0 : ∀ k : Nat, Lib.repeatL [0] k = List.replicate k 0
  | 0 => rfl
  | k + 1 => by rw [Lib.repeatL, rep0 k]; rfl
theorem more_calls {w : World} {r : Nat} {s : ByteArray} {bad : Bool} (h : Cur w r s bad) : Calls Tryd.prog 39 #[.pointer (some ⟨r, 0, none⟩)] w (Ret fun v w' => v = .bool (!bad && !(decide (B s = []))) ∧ w' = w) := by
  apply calls39
  unfold S39
  refine ptr_i ?_
  refine boxF (l := .bool) 1 bad h (by rfl) ?_
  cases bad with
  | true => exact splitW_f (by rfl) ⟨rfl, rfl⟩
  | false =>
    refine splitW_t (by rfl) (ptr_i ?_)
    refine box0 (l := .str) s h (by rfl) ?_
    rw [empty_beq]
    exact ⟨rfl, rfl⟩
theorem take_calls {w : World} {r : Nat} {s : ByteArray} {bad : Bool} {k : Nat} (h : Cur w r s bad) (hk : k ≤ 8) (hs : s.size ≤ 9223372036854775807) : Calls Tryd.prog 53 #[.pointer (some ⟨r, 0, none⟩), .int .i64 (k : Int)] w (Ret fun v w' => GB r w w' ∧
    ((k ≤ s.size ∧ v = .string (mkB ((B s).take k)) ∧ Cur w' r (mkB ((B s).drop k)) bad) ∨ (s.size < k ∧ v = .string (mkB (List.replicate k 0)) ∧ Cur w' r s true))) := by
  apply calls53
  unfold S53
  have hsz := B_size s
  refine ptr_i ?_
  refine box0 (l := .str) s h (by rfl) ?_
  refine splitW_i (fun hlt => ?_) (fun hlt => ?_)
  · have hlt := of_decide_eq_true hlt
    refine ptr_i ?_
    refine stF 1 h (by simp) ?_
    intro w1 hb1 hg1
    refine callW_of ((Tryd.strings_Repeat (ByteArray.mk #[0]) k w1 (by omega) (by show 1 * k ≤ _; omega)).mono (R' := Ret fun v w' => v = .string (mkB (List.replicate k 0)) ∧ Ext w1 w') ?_) ?_
    · rintro e w' ⟨rfl, hb⟩
      refine ⟨?_, hb⟩
      show Value.string ⟨(Lib.repeatL [0] k).toArray⟩ = _
      rw [rep0]
      rfl
    · rintro _ w2 ⟨rfl, he2⟩
      exact ⟨_, rfl, g_ext hg1 he2, .inr ⟨by omega, rfl, Blk.ext hb1 he2⟩⟩
  · have hlt := of_decide_eq_false hlt
    refine ptr_i (box0 (l := .str) s h (by rfl) ⟨⟨by omega, by omega⟩, ptr_i (box0 (l := .str) s h (by rfl) ⟨⟨by omega, by omega⟩, ptr_i ?_⟩)⟩)
    refine st0 h (by simp) ?_
    intro w1 hb1 hg1
    have e1 : s.extract 0 (Int.toNat (k : Int)) = mkB ((B s).take k) := by
      apply B_inj
      rw [B_extract, B_mkB, Int.toNat_natCast]
      simp
    have e2 : s.extract (Int.toNat (k : Int)) s.size = mkB ((B s).drop k) := by
      apply B_inj
      rw [B_extract, B_mkB, Int.toNat_natCast, List.take_of_length_le (by simp; omega)]
    rw [e2] at hb1
    rw [e1]
    exact ⟨hg1, .inl ⟨by omega, rfl, hb1⟩⟩
/-! ### Builders -/
def Bd (w : World) (b : Nat) (l : List UInt8) : Prop := Lib.IsBuilder 85 5 b b (Lib.byteCells l) w
theorem bd_at {w w' : World} {r b : Nat} {p : Value} {vs : List Value} (h : Lib.BuilderAt 85 5 b b p vs w) (hg : GB r w w') (hr : r < b) : Lib.BuilderAt 85 5 b b p vs w' := by
  obtain ⟨h1, v, hb, ho, hne⟩ := h
  refine ⟨h1, v, (hg.block b (Array.getElem?_eq_some_iff.1 hb).1 (fun e => by cases e; omega)).trans hb, World.ownsRow.kept ho hg ?_, hne⟩
  cases hv : v.ownBlock with
  | none => exact .inl rfl
  | some j =>
    have := (World.ownsRow.lt ho j hv).1
    exact .inr (fun e => by cases e; omega)
theorem Bd.kept {w w' : World} {r b : Nat} {l : List UInt8} (h : Bd w b l) (hg : GB r w w') (hr : r < b) : Bd w' b l := by
  rcases h with h | h
  · exact .inl (bd_at h hg hr)
  · exact .inr (bd_at h hg hr)
theorem Bd.new {w : World} {b : Nat} (h : Blk w b [.pointer none, .slice none 0 0] 85) : Bd w b [] :=
  .inl ⟨Nat.le_refl _, .slice none 0 0, h, World.ownsRow_nil w b _ 1, fun e => by cases e⟩
theorem Bd.lt {w : World} {b : Nat} {l : List UInt8} (h : Bd w b l) : b < w.heap.size := by
  rcases h with h | h <;> exact h.lt
theorem bdw_calls {w : World} {b : Nat} {l : List UInt8} (h : Bd w b l) (c : UInt8) (hl : l.length ≤ 140737488355000) : Calls Tryd.prog 62 #[.pointer (some ⟨b, 0, none⟩), .int .u8 (c.toNat : Int)] w (Ret fun v w' => v = .nilIface ∧ Bd w' b (l ++ [c]) ∧ Below b w w') :=
  (Tryd.Builder_WriteByte b b (Lib.byteCells l) (c.toNat : Int) w h (by rw [Lib.byteCells_length]; omega) (Nat.le_of_lt h.lt)).mono (by
    rintro e w' ⟨rfl, h1, h2⟩
    refine ⟨rfl, .inr ?_, h2⟩
    have : Lib.byteCells (l ++ [c]) = Lib.byteCells l ++ [.int .u8 (c.toNat : Int)] := by simp [Lib.byteCells]
    rw [this]
    exact h1)
theorem bds_calls {w : World} {b : Nat} {l : List UInt8} (h : Bd w b l) : Calls Tryd.prog 63 #[.pointer (some ⟨b, 0, none⟩)] w (Ret fun v w' => v = .string (mkB l) ∧ Below b w w') :=
  (Tryd.Builder_String_any b b l w h (Nat.le_of_lt h.lt)).mono (by rintro e w' ⟨rfl, h2⟩; exact ⟨rfl, h2⟩)
theorem blk_below {w w' : World} {r b : Nat} {cs : List Value} {t : TypeId} (h : Blk w r cs t) (hb : Below b w w') (hr : r < b) : Blk w' r cs t := (hb.block r hr).trans h
theorem bt0 {l : List UInt8} (h : 0 < l.length) : bt (mkB l) 0 = ((l.getD 0 0).toNat : Int) := by
  rw [bt_eq (by omega) (by rw [mkB_size]; omega), B_mkB]
  rfl
theorem loopW_m {T : Type} {x0 : T} {B : T → (T → WP) → WP} {w : World} (I : T → WP) (μ : T → World → Nat) (h0 : I x0 w) (h : ∀ x w, I x w → B x (fun x' w' => I x' w' ∧ μ x' w' < μ x w) w) : loopW T x0 B w := ⟨I, μ, h0, h⟩
/-- How much a cursor may still be moved. -/
def curM (r : Nat) (w : World) : Nat := match w.cell? ⟨r, 0, none⟩, w.cell? ⟨r, 1, none⟩ with
  | some (.string s), some (.bool false) => s.size + 1
  | _, _ => 0
theorem curM_f {w : World} {r : Nat} {s : ByteArray} (h : Cur w r s false) : curM r w = s.size + 1 := by
  unfold curM
  rw [Blk.cell h 0, Blk.cell h 1]
  rfl
theorem curM_t {w : World} {r : Nat} {s : ByteArray} (h : Cur w r s true) : curM r w = 0 := by
  unfold curM
  rw [Blk.cell h 0, Blk.cell h 1]
  rfl
theorem unesc_b {b : UInt8} (h : b ≠ 0) (r : List UInt8) : unesc (b :: r) = (unesc r).map fun x => (b :: x.1, x.2) := by
  cases r with
  | nil => rfl
  | cons c r => rw [unesc, if_pos h]
theorem unesc_00 (r : List UInt8) : unesc (0 :: 0 :: r) = some ([], r) := by rw [unesc, if_neg (by simp), if_pos rfl]
theorem unesc_0f (r : List UInt8) : unesc (0 :: 255 :: r) = (unesc r).map fun x => (0 :: x.1, x.2) := by rw [unesc, if_neg (by simp), if_neg (by decide), if_pos rfl]
theorem unesc_0x {c : UInt8} (h0 : c ≠ 0) (h1 : c ≠ 255) (r : List UInt8) : unesc (0 :: c :: r) = none := by rw [unesc, if_neg (by simp), if_neg h0, if_neg h1]
theorem u8_ne0 {b : UInt8} (h : b ≠ 0) : (b.toNat : Int) ≠ 0 := by
  intro e
  exact h (UInt8.toNat_inj.1 (by simpa using e))
theorem ctext_calls {w : World} {r : Nat} {s : ByteArray} (h : Cur w r s false) (hs : s.size ≤ 140737488000000) : Calls Tryd.prog 54 #[.pointer (some ⟨r, 0, none⟩)] w (Ret fun v w' => GB r w w' ∧
    ((∃ t rest, unesc (B s) = some (t, rest) ∧ v = .string (mkB t) ∧ Cur w' r (mkB rest) false) ∨ (unesc (B s) = none ∧ (∃ z, v = .string z) ∧ ∃ s', Cur w' r s' true))) := by
  apply calls54
  unfold S54
  have hrlt : r < w.heap.size := Blk.lt h
  have hsz := B_size s
  refine new_i fun b w1 hb1 he1 hr1 _ => ?_
  have hrb : r < b := by omega
  have hbd : Bd w1 b [] := Bd.new hb1
  refine loopW_m (fun _ w' => GB r w w' ∧ ((∃ (s' : ByteArray) (l : List UInt8), Cur w' r s' false ∧ Bd w' b l ∧ l.length + s'.size ≤ s.size ∧ unesc (B s) = (unesc (B s')).map (fun x => (l ++ x.1, x.2))) ∨ (unesc (B s) = none ∧ ∃ s', Cur w' r s' true)))
    (fun _ w' => curM r w') ⟨grownBy_of_ext he1 _, .inl ⟨s, [], Blk.ext h he1, hbd, by simp, by simp⟩⟩ ?_
  rintro _ w2 ⟨hg, ⟨s', l, hc, hbd, hls, hu⟩ | ⟨hu, s', hc⟩⟩
  · refine ptr_i (boxF (l := .bool) 1 false hc (by rfl) (splitW_t (by rfl) ?_))
    have hsz' := B_size s'
    have hμ : curM r w2 = s'.size + 1 := curM_f hc
    dsimp only
    rw [hμ]
    refine callW_of (take_calls (k := 1) hc (by omega) (by omega)) ?_
    rintro _ w3 ⟨hg3, ⟨hk, rfl, hc3⟩ | ⟨hk, rfl, hc3⟩⟩
    · obtain ⟨x, r1, hx⟩ : ∃ x r1, B s' = x :: r1 := by
        cases hB : B s' with
        | nil =>
          have : (B s').length = 0 := by rw [hB]; rfl
          omega
        | cons x r1 => exact ⟨x, r1, rfl⟩
      rw [hx] at hc3 hu ⊢
      have hbd3 := hbd.kept hg3 hrb
      have hg3 := g_tr hg hg3
      simp only [List.take_succ_cons, List.take_zero, List.drop_succ_cons, List.drop_zero] at hc3 ⊢
      refine ⟨_, rfl, ⟨by omega, by rw [mkB_size]; simp⟩, ?_⟩
      rw [bt0 (l := [x]) (by simp)]
      have hl1 : (mkB r1).size + 1 = s'.size := by rw [mkB_size, hsz', hx]; simp
      by_cases hx0 : x = 0
      · subst hx0
        refine splitW_f (by rfl) ?_
        refine callW_of (take_calls (k := 1) hc3 (by omega) (by omega)) ?_
        rintro _ w4 ⟨hg4, ⟨hk4, rfl, hc4⟩ | ⟨hk4, rfl, hc4⟩⟩
        · have hbd4 := hbd3.kept hg4 hrb
          have hg4 := g_tr hg3 hg4
          rw [B_mkB] at hc4 ⊢
          cases r1 with
          | nil => rw [mkB_size] at hk4; simp at hk4
          | cons y r2 =>
            simp only [List.take_succ_cons, List.take_zero, List.drop_succ_cons, List.drop_zero] at hc4 ⊢
            refine ⟨_, rfl, ⟨by omega, by rw [mkB_size]; simp⟩, ?_⟩
            rw [bt0 (l := [y]) (by simp)]
            have hl2 : (mkB r2).size + 2 = s'.size := by rw [mkB_size, hsz', hx]; simp
            by_cases hy0 : y = 0
            · subst hy0
              refine splitW_t (by rfl) ?_
              refine callW_of (bds_calls hbd4) ?_
              rintro _ w5 ⟨rfl, hb5⟩
              refine ⟨_, rfl, g_below hg4 hb5 (by omega) (Nat.le_of_lt hbd4.lt), .inl ⟨l, r2, ?_, rfl, blk_below hc4 hb5 hrb⟩⟩
              rw [hu, unesc_00]
              simp
            · refine splitW_f (beq_eq_false_iff_ne.2 (u8_ne0 hy0)) ?_
              by_cases hyf : y = 255
              · subst hyf
                refine splitW_t (by rfl) ?_
                refine callW_of (bdw_calls hbd4 0 (by omega)) ?_
                rintro _ w5 ⟨rfl, hbd5, hb5⟩
                have hc5 : Cur w5 r (mkB r2) false := blk_below hc4 hb5 hrb
                refine ⟨_, rfl, ⟨g_below hg4 hb5 (by omega) (Nat.le_of_lt hbd4.lt), .inl ⟨mkB r2, l ++ [0], hc5, hbd5, by simp; omega, ?_⟩⟩, by rw [curM_f hc5]; omega⟩
                rw [hu, unesc_0f, B_mkB]
                cases unesc r2 <;> simp
              · have hy2 : (y.toNat : Int) ≠ 255 := by
                  intro e
                  exact hyf (UInt8.toNat_inj.1 (show y.toNat = 255 by omega))
                refine splitW_f (beq_eq_false_iff_ne.2 hy2) ?_
                refine ptr_i (stF 1 hc4 (by simp) ?_)
                intro w5 hc5 hg5
                have hc5 : Cur w5 r (mkB r2) true := hc5
                refine ⟨⟨g_tr hg4 hg5, .inr ⟨?_, _, hc5⟩⟩, by rw [curM_t hc5]; omega⟩
                rw [hu, unesc_0x hy0 hyf]
                rfl
        · have hbd4 := hbd3.kept hg4 hrb
          have hg4 := g_tr hg3 hg4
          obtain rfl : r1 = [] := List.eq_nil_of_length_eq_zero (by rw [mkB_size] at hk4; omega)
          refine ⟨_, rfl, ⟨by omega, by rw [mkB_size]; simp⟩, ?_⟩
          rw [bt0 (l := List.replicate 1 0) (by simp)]
          refine splitW_t (by rfl) ?_
          refine callW_of (bds_calls hbd4) ?_
          rintro _ w5 ⟨rfl, hb5⟩
          refine ⟨_, rfl, g_below hg4 hb5 (by omega) (Nat.le_of_lt hbd4.lt), .inr ⟨?_, ⟨_, rfl⟩, _, blk_below hc4 hb5 hrb⟩⟩
          rw [hu]
          rfl
      · refine splitW_t (bne_iff_ne.2 (u8_ne0 hx0)) ?_
        refine callW_of (bdw_calls hbd3 x (by omega)) ?_
        rintro _ w5 ⟨rfl, hbd5, hb5⟩
        have hc5 : Cur w5 r (mkB r1) false := blk_below hc3 hb5 hrb
        refine ⟨_, rfl, ⟨g_below hg3 hb5 (by omega) (Nat.le_of_lt hbd3.lt), .inl ⟨mkB r1, l ++ [x], hc5, hbd5, by simp; omega, ?_⟩⟩, by rw [curM_f hc5]; omega⟩
        rw [hu, unesc_b hx0, B_mkB]
        cases unesc r1 <;> simp
    · have hbd3 := hbd.kept hg3 hrb
      have hg3 := g_tr hg hg3
      have hnil : B s' = [] := List.eq_nil_of_length_eq_zero (by omega)
      refine ⟨_, rfl, ⟨by omega, by rw [mkB_size]; simp⟩, ?_⟩
      rw [bt0 (l := List.replicate 1 0) (by simp)]
      refine splitW_f (by rfl) ?_
      refine callW_of (take_calls (k := 1) hc3 (by omega) (by omega)) ?_
      rintro _ w4 ⟨hg4, ⟨hk4, rfl, hc4⟩ | ⟨hk4, rfl, hc4⟩⟩
      · omega
      · have hbd4 := hbd3.kept hg4 hrb
        have hg4 := g_tr hg3 hg4
        refine ⟨_, rfl, ⟨by omega, by rw [mkB_size]; simp⟩, ?_⟩
        rw [bt0 (l := List.replicate 1 0) (by simp)]
        refine splitW_t (by rfl) ?_
        refine callW_of (bds_calls hbd4) ?_
        rintro _ w5 ⟨rfl, hb5⟩
        refine ⟨_, rfl, g_below hg4 hb5 (by omega) (Nat.le_of_lt hbd4.lt), .inr ⟨?_, ⟨_, rfl⟩, _, blk_below hc4 hb5 hrb⟩⟩
        rw [hu, hnil]
        rfl
  · refine ptr_i (boxF (l := .bool) 1 true hc (by rfl) (splitW_f (by rfl) ?_))
    exact ⟨hg, .inr ⟨hu, ⟨_, rfl⟩, s', hc⟩⟩
theorem bev_snoc : ∀ (l : List UInt8) (x : UInt8), bev (l ++ [x]) = bev l * 256 + x.toNat
  | [], x => by simp [bev]
  | b :: r, x => by
    rw [List.cons_append, bev, bev_snoc r x, bev, List.length_append, List.length_singleton, Nat.pow_succ, Nat.add_mul, Nat.mul_assoc]
    omega
/-- What a take from a good cursor leaves. -/
theorem take2_calls {w : World} {r : Nat} {s : ByteArray} {k : Nat} (h : Cur w r s false) (hk : k ≤ 8) (hs : s.size ≤ 9223372036854775807) : Calls Tryd.prog 53 #[.pointer (some ⟨r, 0, none⟩), .int .i64 (k : Int)] w (Ret fun v w' => GB r w w' ∧
    ∃ (l : List UInt8) (s2 : ByteArray) (bad : Bool), l.length = k ∧ v = .string (mkB l) ∧ Cur w' r s2 bad ∧ s2.size ≤ s.size ∧ ((bad = false ∧ k ≤ (B s).length ∧ l = (B s).take k ∧ B s2 = (B s).drop k) ∨ (bad = true ∧ (B s).length < k))) :=
  (take_calls h hk hs).mono (by
    intro e w' hh
    unfold Ret at hh ⊢
    revert hh
    cases e with
    | returned v =>
      rintro ⟨hg, ⟨h1, rfl, hc⟩ | ⟨h1, rfl, hc⟩⟩
      · exact ⟨hg, (B s).take k, _, false, by rw [List.length_take, ← B_size]; omega, rfl, hc, by rw [mkB_size, List.length_drop, ← B_size]; omega, .inl ⟨rfl, by rw [← B_size]; exact h1, rfl, B_mkB _⟩⟩
      · exact ⟨hg, List.replicate k 0, s, true, List.length_replicate, rfl, hc, Nat.le_refl _, .inr ⟨rfl, by rw [← B_size]; exact h1⟩⟩
    | _ => exact fun h => h)
theorem wrap_top {n : Nat} (h : n < 18446744073709551616) : IntKind.wrap .i64 (ixor .u64 (n : Int) 9223372036854775808) = (n : Int) - 9223372036854775808 := by
  rw [show (9223372036854775808 : Int) = ((9223372036854775808 : Nat) : Int) from rfl, ixor_nat (by rfl) (by simp [IntKind.bits]; omega) (by simp [IntKind.bits]), xor_top h, wrap_i64']
  split <;> omega
theorem or_step {n : Nat} {x : UInt8} (h : n < 72057594037927936) : ior .u64 (ishl .u64 (n : Int) (8 : Int)) (IntKind.wrap .u64 (x.toNat : Int)) = ((n * 256 + x.toNat : Nat) : Int) := by
  have hx := x.toNat_lt
  rw [wrap_u64_nat (by omega), show (8 : Int) = ((8 : Nat) : Int) from rfl, ishl_nat (k := .u64) rfl _ 8 (by simp [IntKind.bits])]
  have e : n * 2 ^ 8 % 2 ^ IntKind.bits .u64 = 2 ^ 8 * n := by rw [Nat.mul_comm]; exact Nat.mod_eq_of_lt (by simp [IntKind.bits]; omega)
  rw [e, ior_nat (k := .u64) rfl (by simp [IntKind.bits]; omega) (by simp [IntKind.bits]; omega), ← Nat.two_pow_add_eq_or_of_lt (by omega)]
  congr 1
  omega
theorem cellQ_mk {k z : Int} {s : ByteArray} (h0 : -9223372036854775808 ≤ k) (h1 : k < 9223372036854775808) (h2 : -9223372036854775808 ≤ z) (h3 : z < 9223372036854775808) (h4 : s.size ≤ 9223372036854775807) : cellQ (k, z, s) := ⟨⟨h0, h1⟩, ⟨h2, h3⟩, h4⟩
theorem unesc_tlen : ∀ {s : List UInt8} {x : List UInt8 × List UInt8}, unesc s = some x → x.1.length ≤ s.length
  | [], x, h => by cases h
  | [b], x, h => by cases h
  | b :: c :: r, x, h => by
    by_cases hb : b = 0
    · subst hb
      by_cases hc : c = 0
      · subst hc
        rw [unesc_00] at h
        cases h
        simp
      · by_cases hf : c = 255
        · subst hf
          rw [unesc_0f] at h
          obtain ⟨y, hy, rfl⟩ := Option.map_eq_some_iff.1 h
          have := unesc_tlen hy
          simp
          omega
        · rw [unesc_0x hc hf] at h
          cases h
    · rw [unesc_b hb] at h
      obtain ⟨y, hy, rfl⟩ := Option.map_eq_some_iff.1 h
      have := unesc_tlen hy
      simp at this ⊢
      omega
theorem ccell_calls {w : World} {r : Nat} {s : ByteArray} (h : Cur w r s false) (hn : B s ≠ []) (hs : s.size ≤ 140737488000000) : Calls Tryd.prog 40 #[.pointer (some ⟨r, 0, none⟩)] w (Ret fun v w' => GB r w w' ∧
    ∃ (c : Cell) (s2 : ByteArray) (bad : Bool), v = .agg #[.int .i64 c.1, .int .i64 c.2.1, .string c.2.2] ∧ Cur w' r s2 bad ∧ ((bad = false ∧ cellQ c ∧ unkeyC (B s) = some (c, B s2)) ∨ (bad = true ∧ unkeyC (B s) = none))) := by
  apply calls40
  unfold S40
  have hrlt : r < w.heap.size := Blk.lt h
  have hsz := B_size s
  refine new_i fun r1 w1 hb1 he1 hr1 hs1 => ?_
  have hc1 : Cur w1 r s false := Blk.ext h he1
  refine callW_of (take2_calls (k := 1) hc1 (by omega) (by omega)) ?_
  rintro _ w2 ⟨hg2', l, s2, bad, hl, rfl, hc2, hss, hcase⟩
  have hg2 : GB r w w2 := g_tr (grownBy_of_ext he1 _) hg2'
  have hb1 := blk_g hb1 hg2' (by omega)
  obtain ⟨x, r0, hx⟩ : ∃ x r0, B s = x :: r0 := by
    cases hB : B s with
    | nil => exact absurd hB hn
    | cons x r0 => exact ⟨x, r0, rfl⟩
  rcases hcase with ⟨rfl, _, rfl, hs2⟩ | ⟨_, hh⟩
  case inr => rw [hx] at hh; simp at hh
  rw [hx] at hs2 hsz ⊢
  simp only [List.take_succ_cons, List.take_zero, List.drop_succ_cons, List.drop_zero, List.length_cons] at hs2 hsz ⊢
  have hxl := x.toNat_lt
  refine ⟨_, rfl, ⟨by omega, by rw [mkB_size]; simp⟩, ?_⟩
  rw [bt0 (l := [x]) (by simp)]
  have ex : IntKind.wrap .i64 (([x].getD 0 0).toNat : Int) = (x.toNat : Int) := wrap_i64 (by omega) (by show (x.toNat : Int) < _; omega)
  rw [ex]
  refine box_i (vs := [.int .i64 (x.toNat : Int), .int .i64 0, .string ByteArray.empty]) (by rfl) (cellE.one ((x.toNat : Int), 0, ByteArray.empty)) ?_ (by rfl)
  intro r3 w3 hb3 he3 hr3
  have hg3 := g_ext hg2 he3
  have hb1 := hb1.ext he3
  have hc3 : Cur w3 r s2 false := Blk.ext hc2 he3
  have hs2' := hg2.size
  have hr3r : r3 ≠ r := by omega
  have hr13 : r1 ≠ r3 := by have := Blk.lt hb1; have := hg2'.size; omega
  have hszs2 : s2.size = r0.length := by rw [B_size, hs2]
  have fin : ∀ {w5 : World} {s3 : ByteArray} {bad : Bool} (c : Cell), Blk w5 r3 (cellE.f c) 23 → Blk w5 r1 [.int .i64 0, .int .i64 0, .string ByteArray.empty] 23 → GB r w w5 → Cur w5 r s3 bad →
      ((bad = false ∧ cellQ c ∧ unkeyC (x :: r0) = some (c, B s3)) ∨ (bad = true ∧ unkeyC (x :: r0) = none)) →
      (ldAW [(.int .i64), (.int .i64), .str] (⟨r3, 0, none⟩ : Addr) fun (u11 : (Int × Int × ByteArray × Unit)) =>
        guardW ((#[(.int .i64 u11.1), (.int .i64 u11.2.1), (.string u11.2.2.1)] : Array Value).size = 3) <|
        stAW (⟨r1, 0, none⟩ : Addr) [(.int .i64 u11.1), (.int .i64 u11.2.1), (.string u11.2.2.1)] <|
        ldAW [(.int .i64), (.int .i64), .str] (⟨r1, 0, none⟩ : Addr) fun (u12 : (Int × Int × ByteArray × Unit)) => fun w' => GB r w w' ∧
          ∃ (c : Cell) (s2 : ByteArray) (bad : Bool), Value.agg #[(.int .i64 u12.1), (.int .i64 u12.2.1), (.string u12.2.2.1)] = .agg #[.int .i64 c.1, .int .i64 c.2.1, .string c.2.2] ∧ Cur w' r s2 bad ∧ ((bad = false ∧ cellQ c ∧ unkeyC (x :: r0) = some (c, B s2)) ∨ (bad = true ∧ unkeyC (x :: r0) = none))) w5 := by
    intro w5 s3 bad c hb3 hb1 hg hc hu
    refine boxA (ls := [.int .i64, .int .i64, .str]) (cT c) hb3 rfl ?_
    refine refill_g (vs := cellE.f c) hb1 (by rfl) (cellE.one c) (by rfl) ?_
    intro w6 hb6 hg6
    refine boxA (ls := [.int .i64, .int .i64, .str]) (cT c) hb6 rfl ?_
    exact ⟨g_new hg hg6 (by omega), c, s3, bad, rfl, blk_g hc hg6 (by omega), hu⟩
  refine box0 (l := .int .i64) (x.toNat : Int) hb3 (by rfl) ?_
  by_cases k1 : x = 1
  · subst k1
    refine splitW_t (by rfl) ?_
    refine callW_of (take2_calls (k := 8) hc3 (by omega) (by omega)) ?_
    rintro _ w4 ⟨hg4', l8, s4, bad4, hl8, rfl, hc4, _, hcase⟩
    have hg4 := g_tr hg3 hg4'
    have hb3 := blk_g hb3 hg4' hr3r
    have hb1 := blk_g hb1 hg4' (by omega)
    have hsl : (mkB l8).size = 8 := by rw [mkB_size, hl8]
    refine ⟨_, rfl, ?_⟩
    refine conv_bytes (e := 5) (u := .string) (by kernel_rfl) (by kernel_rfl) (by kernel_rfl) (by omega) ?_
    intro c5 w5 hs5 he5 _ _
    have hg5 := g_ext hg4 he5
    have hb3 := hb3.ext he5
    have hb1 := hb1.ext he5
    have hc5 : Cur w5 r s4 bad4 := Blk.ext hc4 he5
    rw [B_mkB] at hs5
    rw [hsl] at hs5 ⊢
    refine loopW_i (fun y w' => w' = w5 ∧ ∃ i : Nat, i ≤ 8 ∧ y = ((bev (l8.take i) : Int), (i : Int), ())) (fun y => (8 - y.2.1).toNat) ⟨rfl, 0, by omega, rfl⟩ ?_
    rintro _ w6 ⟨hw, i, hi, rfl⟩
    subst hw
    dsimp only
    by_cases hlt : i < 8
    · refine splitW_t (decide_eq_true (by omega)) ?_
      refine idx_byte hs5 (by omega) (by omega) ?_
      rw [Int.toNat_natCast]
      have hget : l8[i]? = some (l8.getD i 0) := by rw [List.getD_eq_getElem?_getD, List.getElem?_eq_getElem (by omega)]; rfl
      have hbl := bev_lt (l8.take i)
      rw [List.length_take, hl8, Nat.min_eq_left hi] at hbl
      have hp : 256 ^ i ≤ 256 ^ 7 := Nat.pow_le_pow_right (by omega) (by omega)
      rw [or_step (by omega), ← bev_snoc, ← take_snoc hget, wrap_i64 (by omega) (by omega)]
      exact ⟨⟨rfl, i + 1, by omega, rfl⟩, by omega⟩
    · obtain rfl : i = 8 := by omega
      refine splitW_f (decide_eq_false (by omega)) ?_
      have hbl := bev_lt (l8.take 8)
      rw [List.length_take, hl8, Nat.min_self] at hbl
      rw [wrap_top (by omega)]
      rw [List.take_of_length_le (by omega)] at hbl ⊢
      refine stF 1 hb3 (by simp) ?_
      intro w7 hb7 hg7
      refine fin (1, (bev l8 : Int) - 9223372036854775808, ByteArray.empty) hb7 (blk_g hb1 hg7 hr13) (g_new hg5 hg7 (by omega)) (blk_g hc5 hg7 (by omega)) ?_
      rw [unkeyC_1]
      rcases hcase with ⟨rfl, h8, rfl, hs4⟩ | ⟨rfl, h8⟩
      · rw [hs2] at h8 hs4 hbl ⊢
        rw [if_neg (by omega), hs4]
        exact .inl ⟨rfl, cellQ_mk (by omega) (by omega) (by omega) (by omega) (by decide), rfl⟩
      · rw [hs2] at h8
        rw [if_pos h8]
        exact .inr ⟨rfl, rfl⟩
  refine splitW_f (beq_eq_false_iff_ne.2 (by intro e; exact k1 (UInt8.toNat_inj.1 (show x.toNat = 1 by omega)))) ?_
  by_cases k2 : x = 2
  · subst k2
    refine splitW_t (by rfl) ?_
    refine callW_of (take2_calls (k := 1) hc3 (by omega) (by omega)) ?_
    rintro _ w4 ⟨hg4', l1, s4, bad4, hl1, rfl, hc4, _, hcase⟩
    have hg4 := g_tr hg3 hg4'
    have hb3 := blk_g hb3 hg4' hr3r
    have hb1 := blk_g hb1 hg4' (by omega)
    refine ⟨_, rfl, ⟨by omega, by rw [mkB_size]; omega⟩, ?_⟩
    obtain ⟨y, rfl⟩ : ∃ y, l1 = [y] := by
      match l1, hl1 with
      | [y], _ => exact ⟨y, rfl⟩
    have hyl := y.toNat_lt
    rw [bt0 (l := [y]) (by simp)]
    have ey : IntKind.wrap .i64 (([y].getD 0 0).toNat : Int) = (y.toNat : Int) := wrap_i64 (by omega) (by show (y.toNat : Int) < _; omega)
    rw [ey]
    refine stF 1 hb3 (by simp) ?_
    intro w7 hb7 hg7
    refine fin (2, (y.toNat : Int), ByteArray.empty) hb7 (blk_g hb1 hg7 hr13) (g_new hg4 hg7 (by omega)) (blk_g hc4 hg7 (by omega)) ?_
    rw [hs2] at hcase
    rcases hcase with ⟨rfl, h8, hy, hs4⟩ | ⟨rfl, h8⟩
    · cases r0 with
      | nil => simp at h8
      | cons z r0 =>
        simp only [List.take_succ_cons, List.take_zero, List.drop_succ_cons, List.drop_zero, List.cons.injEq, and_true] at hy hs4
        subst hy
        rw [unkeyC_2, hs4]
        exact .inl ⟨rfl, cellQ_mk (by omega) (by omega) (by omega) (by omega) (by decide), rfl⟩
    · obtain rfl : r0 = [] := List.eq_nil_of_length_eq_zero (by omega)
      rw [unkeyC_2n]
      exact .inr ⟨rfl, rfl⟩
  refine splitW_f (beq_eq_false_iff_ne.2 (by intro e; exact k2 (UInt8.toNat_inj.1 (show x.toNat = 2 by omega)))) ?_
  by_cases k3 : x = 3
  · subst k3
    refine splitW_t (by rfl) ?_
    refine callW_of (ctext_calls hc3 (by omega)) ?_
    rintro _ w4 ⟨hg4', ⟨t, rest, hu, rfl, hc4⟩ | ⟨hu, ⟨z, rfl⟩, s4, hc4⟩⟩
    · have hg4 := g_tr hg3 hg4'
      have hb3 := blk_g hb3 hg4' hr3r
      have hb1 := blk_g hb1 hg4' (by omega)
      refine ⟨_, rfl, ?_⟩
      refine stF 2 hb3 (by simp) ?_
      intro w7 hb7 hg7
      rw [hs2] at hu
      have htl := unesc_tlen hu
      refine fin (3, 0, mkB t) hb7 (blk_g hb1 hg7 hr13) (g_new hg4 hg7 (by omega)) (blk_g hc4 hg7 (by omega)) ?_
      rw [unkeyC_3, hu, B_mkB]
      exact .inl ⟨rfl, cellQ_mk (by omega) (by omega) (by omega) (by omega) (by rw [mkB_size]; simp at htl; omega), rfl⟩
    · have hg4 := g_tr hg3 hg4'
      have hb3 := blk_g hb3 hg4' hr3r
      have hb1 := blk_g hb1 hg4' (by omega)
      refine ⟨_, rfl, ?_⟩
      refine stF 2 hb3 (by simp) ?_
      intro w7 hb7 hg7
      rw [hs2] at hu
      refine fin (3, 0, z) hb7 (blk_g hb1 hg7 hr13) (g_new hg4 hg7 (by omega)) (blk_g hc4 hg7 (by omega)) ?_
      rw [unkeyC_3, hu]
      exact .inr ⟨rfl, rfl⟩
  refine splitW_f (beq_eq_false_iff_ne.2 (by intro e; exact k3 (UInt8.toNat_inj.1 (show x.toNat = 3 by omega)))) ?_
  refine fin ((x.toNat : Int), 0, ByteArray.empty) hb3 hb1 hg3 hc3 ?_
  rw [unkeyC_o k1 k2 k3, hs2]
  exact .inl ⟨rfl, cellQ_mk (by omega) (by omega) (by omega) (by omega) (by decide), rfl⟩
/-- What Unkey hands back. -/
def UkRes (w : World) (R : Option (List Cell)) (v : Value) (w' : World) : Prop := Ext w w' ∧ ∃ (x : Option Addr × Nat × Nat), match R with
  | none => v = .tuple #[.slice none 0 0, .int .i64 160]
  | some cs => v = .tuple #[.slice x.1 x.2.1 x.2.2, .int .i64 0] ∧ Sli cellE w' x.1 x.2.1 cs
theorem unkey_calls (w : World) (s : ByteArray) (hs : s.size ≤ 1000000) : Calls Tryd.prog 15 #[.string s] w (Ret (UkRes w (unkeyR (B s)))) := by
  apply calls15
  unfold S15
  have hsz := B_size s
  refine new_i fun r w1 hb1 he1 hr1 hs1 => ?_
  have hc1 : Cur w1 r s false := hb1
  refine loopW_m (fun y w' => ∃ (A : Option Addr) (n c : Nat) (acc : List Cell) (s' : ByteArray), y = ((A, n, c), ()) ∧ GB r w1 w' ∧ Cur w' r s' false ∧ Owni cellE 23 w' (r + 1) A n c acc ∧ n + s'.size ≤ s.size ∧ unkeyR (B s) = (unkeyR (B s')).map (acc ++ ·))
    (fun _ w' => curM r w') ⟨none, 0, 0, [], s, rfl, grownBy_refl _ _, hc1, Owni.nil _ _ _, by omega, by simp⟩ ?_
  rintro _ w2 ⟨A, n, c, acc, s', rfl, hg, hc, ho, hn, hu⟩
  dsimp only
  have hw1 : r < w1.heap.size := by omega
  have hμ : curM r w2 = s'.size + 1 := curM_f hc
  rw [hμ]
  have hsz' := B_size s'
  have hE : Ext w w2 := he1.grown hg (fun j hj => by cases hj; omega)
  refine callW_of (more_calls hc) ?_
  rintro _ w3 ⟨rfl, hw⟩
  subst hw
  refine ⟨_, rfl, ?_⟩
  by_cases hnil : B s' = []
  · refine splitW_f (by simp [hnil]) ?_
    refine ⟨hE, (A, n, c), ?_⟩
    rw [hu, hnil, unkeyR_nil]
    simp only [Option.map_some, List.append_nil]
    exact ⟨trivial, ho.sl⟩
  · refine splitW_t (by simp [hnil]) ?_
    refine callW_of (ccell_calls hc hnil (by omega)) ?_
    rintro _ w4 ⟨hg4, x, s2, bad, rfl, hc4, hcase⟩
    have hg4t := g_tr hg hg4
    have ho4 := ho.grown hg4 (fun j hj e => by cases hj; have := ho.row _ e; omega)
    refine ⟨(x.1, x.2.1, x.2.2, ()), rfl, ?_⟩
    refine box_i (vs := cellE.f x) (by rfl) (cellE.one x) ?_ (by rfl)
    intro r6 w5 hb5 he5 _
    have hc5 : Cur w5 r s2 bad := Blk.ext hc4 he5
    have hg5 := g_ext hg4t he5
    have hE5 : Ext w w5 := he1.grown hg5 (fun j hj => by cases hj; omega)
    refine ptr_i (boxF (l := .bool) 1 bad hc5 (by rfl) ?_)
    rcases hcase with ⟨rfl, q, hk⟩ | ⟨rfl, hk⟩
    · refine splitW_f (by rfl) ?_
      refine boxA (ls := [.int .i64, .int .i64, .str]) (cT x) hb5 rfl ?_
      refine callW_of (vcheck_calls w5 q) ?_
      rintro _ w6 ⟨rfl, he6⟩
      have hstep := unkeyR_some hnil hk
      have hklen := unkeyC_len hk
      have hc6 : Cur w6 r s2 false := Blk.ext hc5 he6
      refine ⟨_, rfl, splitW_i (fun hne => ?_) (fun hne => ?_)⟩
      · have hx : ¬ cellOK x = true := by
          intro hh
          unfold cellE' at hne
          rw [if_pos hh] at hne
          simp at hne
        refine ⟨hE5.trans he6, (none, 0, 0), ?_⟩
        rw [hu, hstep, if_neg hx]
        rfl
      · have hx : cellOK x = true := by
          unfold cellE' at hne
          split at hne
          · rename_i hh; exact hh
          · simp at hne
        refine boxA (ls := [.int .i64, .int .i64, .str]) (cT x) (hb5.ext he6) rfl ?_
        have ho6 := (ho4.ext he5).ext he6
        have hg6 := g_ext hg5 he6
        have hr6 : r + 1 ≤ w6.heap.size := by have := hg6.size; omega
        refine append_newi (E := cellE) (ys := [x]) (by rfl) rfl elem_cell ho6 hr6 (by omega) (by omega) ?_
        intro A7 c7 w7 ho7 hg7
        have hrow : ∀ j, orow A = some j → r + 1 ≤ j := ho6.row
        have hc7 : Cur w7 r s2 false := Blk.grown hc6 hg7.grown (by intro e; have := hrow _ e.symm; omega)
        have hl2 := B_size s2
        refine ⟨⟨A7, n + 1, c7, acc ++ [x], s2, rfl, grownBy_tr hg6 hg7.grown (fun j hj => .inr (by have := hrow j hj; omega)), hc7, ho7, by omega, ?_⟩, by rw [curM_f hc7]; omega⟩
        rw [hu, hstep, if_pos hx]
        cases unkeyR (B s2) <;> simp
    · refine splitW_t (by rfl) ?_
      refine ⟨hE5, (none, 0, 0), ?_⟩
      rw [hu, unkeyR_none hnil hk]
      rfl
end Go.Proofs.YtlpniinmomhkcaaDoor.V
