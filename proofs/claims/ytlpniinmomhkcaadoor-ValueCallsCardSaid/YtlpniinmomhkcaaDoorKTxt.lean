/- Contracts of the package value: unquoted, candidate, Read; strconv.ParseInt. -/
import Derived.Test.YtlpniinmomhkcaaDoorKCur
import Derived.Test.YtlpniinmomhkcaaDoorUnq
import Derived.Test.YtlpniinmomhkcaaDoorShelf2
set_option linter.unusedVariables false
set_option linter.unusedSimpArgs false
namespace Go.Proofs.YtlpniinmomhkcaaDoor.V
open Go Go.Proofs Go.RowKit

/-- The library's two errors, as its variables hold them. -/
def Sen (w : World) : Prop := (∃ ev, w.cell? ⟨2, 0, none⟩ = some ev ∧ (ev = .nilIface ∨ ∃ te pe, ev = .iface te pe)) ∧ (∃ ev, w.cell? ⟨3, 0, none⟩ = some ev ∧ (ev = .nilIface ∨ ∃ te pe, ev = .iface te pe))
theorem Sen.ext {w w' : World} (h : Sen w) (he : Ext w w') : Sen w' := by
  obtain ⟨⟨e1, h1, k1⟩, e2, h2, k2⟩ := h
  exact ⟨⟨e1, he.cell h1, k1⟩, e2, he.cell h2, k2⟩
theorem parse_calls {w : World} (hs : Sen w) (s : ByteArray) (hl : s.size ≤ 281474976710656) : Calls Tryd.prog 56 #[.string s, .int .i64 10, .int .i64 64] w (Ret fun v w' => (∃ e : Value, v = .tuple #[.int .i64 (numF (B s)), e]) ∧ Ext w w') := by
  obtain ⟨⟨e1, h1, k1⟩, e2, h2, k2⟩ := hs
  have hB : B s = s.data.toList := rfl
  unfold numF
  rw [hB]
  cases hp : Lib.parseIntB 64 s.data.toList with
  | ok v =>
    refine (Tryd.strconv_ParseInt_10_at64_ok s (by omega) v hp w).mono ?_
    rintro e w' ⟨rfl, rfl | ⟨t, rfl⟩⟩
    · exact ⟨⟨_, rfl⟩, Ext.refl _⟩
    · exact ⟨⟨_, rfl⟩, ⟨rfl, rfl, rfl, by rw [Go.Lib.bytesWorld_size]; omega, fun k hk => Go.Lib.bytesWorld_at_old w 5 t k hk⟩⟩
  | range =>
    refine (Tryd.strconv_ParseInt_10_at64_range s hl hp e2 w h2 k2).mono ?_
    rintro e w' ⟨N, rfl, _, _, hb⟩
    exact ⟨⟨_, rfl⟩, hb⟩
  | _ =>
    refine (Any.strconv_ParseInt_10_at64_syntax Tryd.laysC174 s hl hp e1 w h1 k1).mono ?_
    rintro e w' ⟨N, rfl, _, _, hb⟩
    exact ⟨⟨_, rfl⟩, hb⟩
theorem idxb_calls (w : World) (b : UInt8) : Calls Tryd.prog 64 #[.string hexB, .int .u8 (b.toNat : Int)] w (Ret fun v w' => v = .int .i64 (hxi b) ∧ w' = w) :=
  (Tryd.strings_IndexByte hexB (b.toNat : Int) w).mono (by
    rintro e w' ⟨rfl, h⟩
    refine ⟨?_, h⟩
    show Value.int .i64 (Lib.indexByte hexL _) = _
    rw [Int.toNat_natCast]
    have : b.toNat.toUInt8 = b := by apply UInt8.toNat_inj.1; rw [Nat.toUInt8, UInt8.toNat_ofNat']; exact Nat.mod_eq_of_lt b.toNat_lt
    rw [this]
    rfl)
theorem hxi_lt : ∀ b : UInt8, hxi b < 16 := by
  intro b
  have : ∀ x : Fin 256, hxi (UInt8.ofNat x.val) < 16 := by decide +kernel
  have h := this ⟨b.toNat, b.toNat_lt⟩
  dsimp only at h
  rwa [show UInt8.ofNat b.toNat = b from UInt8.toNat_inj.1 (by rw [UInt8.toNat_ofNat']; exact Nat.mod_eq_of_lt b.toNat_lt)] at h
theorem hexbyte : ∀ x y : Fin 16, IntKind.wrap .u8 (ior .i64 (ishl .i64 (x.val : Int) 4) (y.val : Int)) = (((UInt8.ofNat (x.val * 16 + y.val)).toNat : Nat) : Int) := by decide +kernel
theorem hexbyte' {h l : Int} (h0 : 0 ≤ h) (h1 : h < 16) (l0 : 0 ≤ l) (l1 : l < 16) : IntKind.wrap .u8 (ior .i64 (ishl .i64 h 4) l) = ((UInt8.ofNat (h * 16 + l).toNat).toNat : Int) := by
  have := hexbyte ⟨h.toNat, by omega⟩ ⟨l.toNat, by omega⟩
  dsimp only at this
  rw [show ((h.toNat : Nat) : Int) = h by omega, show ((l.toNat : Nat) : Int) = l by omega, show h.toNat * 16 + l.toNat = (h * 16 + l).toNat by omega] at this
  exact this
theorem unq_calls (w : World) (s : ByteArray) (hs : s.size ≤ 1000000) : Calls Tryd.prog 55 #[.string s] w (Ret fun v w' => v = .string (mkB (unq (B s))) ∧ Ext w w') := by
  apply calls55
  unfold S55
  have hsz := B_size s
  refine new_i fun b w1 hb1 he1 hr1 hs1 => ?_
  have hbd : Bd w1 b [] := Bd.new hb1
  refine loopW_i (fun y w' => ∃ (s' : ByteArray) (l : List UInt8), y = (s', ()) ∧ Ext w w' ∧ Bd w' b l ∧ l.length + s'.size ≤ s.size ∧ unq (B s) = l ++ unq (B s')) (fun y => y.1.size) ⟨s, [], rfl, he1, hbd, by simp, by simp⟩ ?_
  rintro _ w2 ⟨s', l, rfl, he2, hbd, hl, hu⟩
  dsimp only
  have hsz' := B_size s'
  rw [empty_beq]
  have hxt : ∀ {w3 w4 : World}, Ext w w3 → Below b w3 w4 → b ≤ w3.heap.size → Ext w w4 := by
    intro w3 w4 h k hb
    refine ⟨k.os.trans h.os, k.tape.trans h.tape, k.output.trans h.output, Nat.le_trans h.size k.size, fun j hj => (k.block j (by omega)).trans (h.block j hj)⟩
  cases hB : B s' with
  | nil =>
    refine splitW_f (by rfl) ?_
    refine callW_of (bds_calls hbd) ?_
    rintro _ w3 ⟨rfl, hb3⟩
    refine ⟨_, rfl, ?_, hxt he2 hb3 (Nat.le_of_lt hbd.lt)⟩
    rw [hu, hB, unq_nil, List.append_nil]
  | cons c r =>
    have hrl : s'.size = r.length + 1 := by rw [hsz', hB]; rfl
    have hbt : ∀ (i : Nat), i < r.length + 1 → bt s' (i : Int) = (((c :: r).getD i 0).toNat : Int) := by
      intro i hi
      rw [bt_eq (by omega) (by omega), hB, Int.toNat_natCast]
    refine splitW_t (by rfl) ?_
    have one : ∀ {w3 : World}, w3 = w2 ∨ w3 = w2.drew → ¬ (3 ≤ r.length ∧ c = 92 ∧ 0 ≤ hxi (r.getD 1 0) ∧ 0 ≤ hxi (r.getD 2 0)) → (guardW (0 ≤ (0 : Int) ∧ (0 : Int) < ((s'.size : Nat) : Int)) <|
        callW Tryd.prog 62 [(.pointer (some (⟨b, 0, none⟩ : Addr))), (.int .u8 (bt s' (0 : Int)))] (.one (.one .any)) fun (u11 : Value) =>
        guardW (0 ≤ (1 : Int) ∧ (1 : Int) ≤ ((s'.size : Nat) : Int)) <| fun w' => (∃ (s'' : ByteArray) (l : List UInt8), ((ByteArray.extract s' (Int.toNat (1 : Int)) s'.size, ()) : ByteArray × Unit) = (s'', ()) ∧ Ext w w' ∧ Bd w' b l ∧ l.length + s''.size ≤ s.size ∧ unq (B s) = l ++ unq (B s'')) ∧ (ByteArray.extract s' (Int.toNat (1 : Int)) s'.size).size < s'.size) w3 := by
      intro w3 hw hc
      have h3 : Ext w2 w3 := by rcases hw with rfl | rfl; exact Ext.refl _; exact (Ext.refl _).drew
      have hbd3 : Bd w3 b l := by rcases hw with rfl | rfl; exact hbd; exact hbd
      refine ⟨⟨by omega, by omega⟩, ?_⟩
      rw [show (0 : Int) = ((0 : Nat) : Int) from rfl, hbt 0 (by omega)]
      refine callW_of (bdw_calls hbd3 c (by omega)) ?_
      rintro _ w4 ⟨rfl, hbd4, hb4⟩
      have e : ByteArray.extract s' (Int.toNat (1 : Int)) s'.size = mkB r := by
        apply B_inj
        rw [B_extract, B_mkB, hB]
        show (List.drop 1 (c :: r)).take (s'.size - 1) = r
        rw [List.drop_succ_cons, List.drop_zero, List.take_of_length_le (by omega)]
      refine ⟨_, rfl, ⟨by omega, by omega⟩, ?_⟩
      rw [e]
      refine ⟨⟨mkB r, l ++ [c], rfl, hxt (he2.trans h3) hb4 (Nat.le_of_lt hbd3.lt), hbd4, by rw [mkB_size]; simp; omega, ?_⟩, by rw [mkB_size]; omega⟩
      rw [hu, hB, unq_one hc, B_mkB]
      simp
    refine joinW_s (fun (y : ByteArray × Unit) w' => y = (s', ()) ∧ (w' = w2 ∨ w' = w2.drew) ∧ ¬ (3 ≤ r.length ∧ c = 92 ∧ 0 ≤ hxi (r.getD 1 0) ∧ 0 ≤ hxi (r.getD 2 0))) ?_ (fun J hJ => ?_)
    · rintro _ w3 ⟨rfl, hw, hc⟩
      exact one hw hc
    · refine joinW_s (fun (y : Bool × Unit) w' => w' = w2 ∧ y.1 = decide (3 ≤ r.length ∧ c = 92)) ?_ (fun J2 hJ2 => ?_)
      · rintro ⟨q, _⟩ w3 ⟨hw, hq⟩
        subst hw
        dsimp only at hq ⊢
        subst hq
        refine splitW_i (fun h => ?_) (fun h => ?_)
        · obtain ⟨h3, hc⟩ := of_decide_eq_true h
          show guardW _ _ w3.drew
          refine ⟨⟨by omega, by omega⟩, ⟨by omega, by omega⟩, ?_⟩
          rw [show (2 : Int) = ((2 : Nat) : Int) from rfl, show (3 : Int) = ((3 : Nat) : Int) from rfl, hbt 2 (by omega), hbt 3 (by omega)]
          have e2 : (c :: r).getD 2 0 = r.getD 1 0 := rfl
          have e3 : (c :: r).getD 3 0 = r.getD 2 0 := rfl
          rw [e2, e3]
          refine callW_of (idxb_calls w3.drew (r.getD 1 0)) ?_
          rintro _ w4 ⟨rfl, hw4⟩
          subst hw4
          refine ⟨_, rfl, ?_⟩
          refine callW_of (idxb_calls w3.drew (r.getD 2 0)) ?_
          rintro _ w4 ⟨rfl, hw4⟩
          subst hw4
          refine ⟨_, rfl, splitW_i (fun g1 => ?_) (fun g1 => ?_)⟩
          · have g1 := of_decide_eq_true g1
            refine splitW_i (fun g2 => ?_) (fun g2 => ?_)
            · have g2 := of_decide_eq_true g2
              rw [hexbyte' (by omega) (hxi_lt _) (by omega) (hxi_lt _)]
              have hbd3 : Bd w3.drew b l := hbd
              refine callW_of (bdw_calls hbd3 _ (by omega)) ?_
              rintro _ w4 ⟨rfl, hbd4, hb4⟩
              have e : ByteArray.extract s' (Int.toNat (4 : Int)) s'.size = mkB (r.drop 3) := by
                apply B_inj
                rw [B_extract, B_mkB, hB]
                show (List.drop 4 (c :: r)).take (s'.size - 4) = r.drop 3
                rw [List.drop_succ_cons, List.take_of_length_le (by simp; omega)]
              refine ⟨_, rfl, ⟨by omega, by omega⟩, ?_⟩
              rw [e]
              refine ⟨⟨mkB (r.drop 3), _, rfl, hxt he2.drew hb4 (Nat.le_of_lt hbd3.lt), hbd4, by rw [mkB_size]; simp; omega, ?_⟩, by rw [mkB_size]; simp; omega⟩
              rw [hu, hB, unq_hex ⟨h3, hc, by omega, by omega⟩, B_mkB]
              simp
            · have g2 := of_decide_eq_false g2
              exact hJ _ _ ⟨rfl, .inr rfl, fun hh => by omega⟩
          · have g1 := of_decide_eq_false g1
            exact hJ _ _ ⟨rfl, .inr rfl, fun hh => by omega⟩
        · exact hJ _ _ ⟨rfl, .inl rfl, fun hh => of_decide_eq_false h ⟨hh.1, hh.2.1⟩⟩
      · refine splitW_i (fun h => ?_) (fun h => ?_)
        · have h := of_decide_eq_true h
          refine ⟨⟨by omega, by omega⟩, hJ2 _ _ ⟨rfl, ?_⟩⟩
          dsimp only
          rw [show (0 : Int) = ((0 : Nat) : Int) from rfl, hbt 0 (by omega)]
          apply Bool.eq_iff_iff.2
          rw [beq_iff_eq, decide_eq_true_iff]
          show ((c.toNat : Nat) : Int) = 92 ↔ _
          constructor
          · intro e
            exact ⟨by omega, UInt8.toNat_inj.1 (show c.toNat = 92 by omega)⟩
          · rintro ⟨_, rfl⟩
            rfl
        · have h := of_decide_eq_false h
          refine hJ2 _ _ ⟨rfl, ?_⟩
          exact (decide_eq_false (fun hh => by omega)).symm
theorem cand_calls {w : World} (hse : Sen w) (s : ByteArray) (hs : s.size ≤ 1000000) : Calls Tryd.prog 41 #[.string s] w (Ret fun v w' => v = .agg #[.int .i64 (candF (B s)).1, .int .i64 (candF (B s)).2.1, .string (candF (B s)).2.2] ∧ Ext w w') := by
  apply calls41
  unfold S41
  have hsz := B_size s
  refine new_i fun r w1 hb1 he1 hr1 hs1 => ?_
  have fin : ∀ {w2 : World} (c : Cell), Ext w1 w2 → candF (B s) = c → (guardW ((#[(.int .i64 c.1), (.int .i64 c.2.1), (.string c.2.2)] : Array Value).size = 3) <|
      stAW (⟨r, 0, none⟩ : Addr) [(.int .i64 c.1), (.int .i64 c.2.1), (.string c.2.2)] <|
      ldAW [(.int .i64), (.int .i64), .str] (⟨r, 0, none⟩ : Addr) fun (u2 : (Int × Int × ByteArray × Unit)) => fun w' => Value.agg #[(.int .i64 u2.1), (.int .i64 u2.2.1), (.string u2.2.2.1)] = .agg #[.int .i64 (candF (B s)).1, .int .i64 (candF (B s)).2.1, .string (candF (B s)).2.2] ∧ Ext w w') w2 := by
    intro w2 c he hc
    rw [hc]
    refine refill_g (vs := cellE.f c) (hb1.ext he) (by rfl) (cellE.one c) (by rfl) ?_
    intro w3 hb3 hg3
    refine boxA (ls := [.int .i64, .int .i64, .str]) (cT c) hb3 rfl ?_
    exact ⟨rfl, (he1.trans he).grown hg3 (fun j hj => by cases hj; omega)⟩
  rw [str_beq, str_beq, str_beq]
  have eN : B (ByteArray.mk #[110, 117, 108, 108]) = [110, 117, 108, 108] := rfl
  have eT : B (ByteArray.mk #[116, 114, 117, 101]) = [116, 114, 117, 101] := rfl
  have eF : B (ByteArray.mk #[102, 97, 108, 115, 101]) = [102, 97, 108, 115, 101] := rfl
  rw [eN, eT, eF]
  refine splitW_i (fun h1 => ?_) (fun h1 => ?_)
  · have h1 := of_decide_eq_true h1
    exact fin cell0 (Ext.refl _) (by unfold candF; rw [if_pos h1])
  have h1 := of_decide_eq_false h1
  refine splitW_i (fun h2 => ?_) (fun h2 => ?_)
  · have h2 := of_decide_eq_true h2
    exact fin (2, 1, ByteArray.empty) (Ext.refl _) (by unfold candF; rw [if_neg h1, if_pos h2])
  have h2 := of_decide_eq_false h2
  refine splitW_i (fun h3 => ?_) (fun h3 => ?_)
  · have h3 := of_decide_eq_true h3
    exact fin (2, 0, ByteArray.empty) (Ext.refl _) (by unfold candF; rw [if_neg h1, if_neg h2, if_pos h3])
  have h3 := of_decide_eq_false h3
  have num : ¬ (2 ≤ (B s).length ∧ (B s).getD 0 0 = 34) → candF (B s) = (1, numF (B s), ByteArray.empty) := by
    intro h4
    unfold candF
    rw [if_neg h1, if_neg h2, if_neg h3, if_neg h4]
  have numw : ¬ (2 ≤ (B s).length ∧ (B s).getD 0 0 = 34) → (callW Tryd.prog 56 [(.string s), (.int .i64 (10 : Int)), (.int .i64 (64 : Int))] (.many [(.one (.int .i64)), (.one .any)]) fun (u7 : Int × Value × Unit) =>
      guardW ((#[(.int .i64 (1 : Int)), (.int .i64 u7.1), (.string ByteArray.empty)] : Array Value).size = 3) <|
      stAW (⟨r, 0, none⟩ : Addr) [(.int .i64 (1 : Int)), (.int .i64 u7.1), (.string ByteArray.empty)] <|
      ldAW [(.int .i64), (.int .i64), .str] (⟨r, 0, none⟩ : Addr) fun (u8 : (Int × Int × ByteArray × Unit)) => fun w' => Value.agg #[(.int .i64 u8.1), (.int .i64 u8.2.1), (.string u8.2.2.1)] = .agg #[.int .i64 (candF (B s)).1, .int .i64 (candF (B s)).2.1, .string (candF (B s)).2.2] ∧ Ext w w') w1 := by
    intro h4
    refine callW_of (parse_calls (hse.ext he1) s (by omega)) ?_
    rintro _ w2 ⟨⟨e, rfl⟩, he2⟩
    exact ⟨(numF (B s), e, ()), rfl, fin (1, numF (B s), ByteArray.empty) he2 (num h4)⟩
  refine splitW_i (fun h4 => ?_) (fun h4 => ?_)
  · have h4 := of_decide_eq_true h4
    refine ⟨⟨by omega, by omega⟩, ?_⟩
    have hbt : bt s 0 = (((B s).getD 0 0).toNat : Int) := bt_eq (by omega) (by omega)
    rw [hbt]
    refine splitW_i (fun h5 => ?_) (fun h5 => ?_)
    · have h5 := beq_iff_eq.1 h5
      have h6 : (B s).getD 0 0 = 34 := UInt8.toNat_inj.1 (show ((B s).getD 0 0).toNat = 34 by omega)
      rw [wrap_i64 (by omega) (by omega)]
      refine ⟨⟨by omega, by omega, by omega⟩, ?_⟩
      have e : s.extract (Int.toNat 1) (Int.toNat ((s.size : Int) - 1)) = mkB (((B s).drop 1).take ((B s).length - 2)) := by
        apply B_inj
        rw [B_extract, B_mkB, show ((s.size : Int) - 1).toNat - Int.toNat 1 = (B s).length - 2 by omega]
        rfl
      rw [e]
      refine callW_of (unq_calls w1 _ (by rw [mkB_size, List.length_take, List.length_drop]; omega)) ?_
      rintro _ w2 ⟨rfl, he2⟩
      rw [B_mkB]
      refine ⟨_, rfl, fin (3, 0, _) he2 ?_⟩
      unfold candF
      rw [if_neg h1, if_neg h2, if_neg h3, if_pos ⟨by omega, h6⟩]
      rfl
    · have h5 := beq_eq_false_iff_ne.1 h5
      refine numw ?_
      rintro ⟨_, h6⟩
      rw [h6] at h5
      exact h5 rfl
  · have h4 := of_decide_eq_false h4
    exact numw (fun hh => by omega)
/-- What Read tells. -/
def readC (s : List UInt8) : Option Cell := if s ≠ [] ∧ txt (candF s) = s then some (candF s) else none
def rdV : Option Cell → (Int × Int × ByteArray × Unit) × Int × Unit
  | none => (cT cell0, 160, ())
  | some c => (cT c, 0, ())
theorem read_calls {w : World} (hp : Pow w) (hse : Sen w) (s : ByteArray) (hs : s.size ≤ 1000000) : Calls Tryd.prog 17 #[.string s] w (Ret fun v w' => v = .tuple #[.agg #[.int .i64 (rdV (readC (B s))).1.1, .int .i64 (rdV (readC (B s))).1.2.1, .string (rdV (readC (B s))).1.2.2.1], .int .i64 (rdV (readC (B s))).2.1] ∧ Ext w w') := by
  apply calls17
  unfold S17
  have hsz := B_size s
  refine new_i fun r w1 hb1 he1 hr1 hs1 => ?_
  refine callW_of (cand_calls (hse.ext he1) s hs) ?_
  rintro _ w2 ⟨rfl, he2⟩
  have hx2 := he1.trans he2
  have q := candF_q (s := B s) (by omega)
  unfold readC
  generalize candF (B s) = c at q ⊢
  refine ⟨cT c, rfl, ?_⟩
  refine box_i (vs := cellE.f c) (by rfl) (cellE.one c) ?_ (by rfl)
  intro r3 w3 hb3 he3 hr3
  have hx3 := hx2.trans he3
  have fin : ∀ {w4 : World} (d : Cell) (n : Int) (R : Option Cell), Ext w1 w4 → rdV R = (cT d, n, ()) → (guardW ((#[(.int .i64 d.1), (.int .i64 d.2.1), (.string d.2.2)] : Array Value).size = 3) <|
      stAW (⟨r, 0, none⟩ : Addr) [(.int .i64 d.1), (.int .i64 d.2.1), (.string d.2.2)] <|
      ldAW [(.int .i64), (.int .i64), .str] (⟨r, 0, none⟩ : Addr) fun (u7 : (Int × Int × ByteArray × Unit)) => fun w' => Value.tuple #[(.agg #[(.int .i64 u7.1), (.int .i64 u7.2.1), (.string u7.2.2.1)]), (.int .i64 n)] = .tuple #[.agg #[.int .i64 (rdV R).1.1, .int .i64 (rdV R).1.2.1, .string (rdV R).1.2.2.1], .int .i64 (rdV R).2.1] ∧ Ext w w') w4 := by
    intro w4 d n R he hR
    rw [hR]
    refine refill_g (vs := cellE.f d) (hb1.ext he) (by rfl) (cellE.one d) (by rfl) ?_
    intro w5 hb5 hg5
    refine boxA (ls := [.int .i64, .int .i64, .str]) (cT d) hb5 rfl ?_
    exact ⟨rfl, (he1.trans he).grown hg5 (fun j hj => by cases hj; omega)⟩
  rw [empty_beq]
  refine splitW_i (fun h1 => ?_) (fun h1 => ?_)
  · have h1 : B s ≠ [] := by simpa using h1
    refine boxA (ls := [.int .i64, .int .i64, .str]) (cT c) hb3 rfl ?_
    refine callW_of (vtext_calls (hp.ext hx3) q) ?_
    rintro _ w4 ⟨rfl, he4⟩
    refine ⟨_, rfl, ?_⟩
    rw [str_beq, B_mkB]
    refine splitW_i (fun h2 => ?_) (fun h2 => ?_)
    · have h2 := of_decide_eq_true h2
      refine boxA (ls := [.int .i64, .int .i64, .str]) (cT c) (hb3.ext he4) rfl ?_
      rw [if_pos ⟨h1, h2⟩]
      exact fin c 0 (some c) ((he2.trans he3).trans he4) rfl
    · have h2 := of_decide_eq_false h2
      rw [if_neg (fun hh => h2 hh.2)]
      exact fin cell0 160 none ((he2.trans he3).trans he4) rfl
  · have h1 : B s = [] := by simpa using h1
    rw [if_neg (fun hh => hh.1 h1)]
    exact fin cell0 160 none (he2.trans he3) rfl
end Go.Proofs.YtlpniinmomhkcaaDoor.V
