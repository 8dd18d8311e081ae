/- Frames: plain, and the contracts of the package frame. -/
import Derived.Test.YtiiemgndnpflbaaHP
import Derived.Test.YtiiemgndnpflbaaKGeo
import Derived.Test.YtiiemgndnpflbaaKIter
import Derived.Test.YtiiemgndnpflbaaKCrc
set_option linter.unusedVariables false
set_option linter.unusedSimpArgs false
namespace Go.Proofs.Ytiiemgndnpflbaa.V
open Go Go.Proofs Go.RowKit Crc

/-! ### Plain -/
/-- A frame: tag, generation, data. -/
abbrev Fra := UInt8 × Nat × ByteArray
def fra0 : Fra := (0, 0, ByteArray.empty)
def fT (f : Fra) : Int × Int × ByteArray × Unit := ((f.1.toNat : Int), (f.2.1 : Int), f.2.2, ())
def fV (f : Fra) : List Value := [.int .u8 (f.1.toNat : Int), .int .u64 (f.2.1 : Int), .string f.2.2]
theorem fV_one (f : Fra) : ∀ v ∈ fV f, v.oneCell' = true := by
  intro v hv
  simp only [fV, List.mem_cons, List.not_mem_nil, or_false] at hv
  rcases hv with rfl | rfl | rfl <;> rfl
def headB (f : Fra) : List UInt8 := [f.1, 0] ++ le 2 (B f.2.2).length ++ le 8 f.2.1
def bodyB (size : Nat) (f : Fra) : List UInt8 := headB f ++ B f.2.2 ++ List.replicate (size - 16 - (B f.2.2).length) 0
def putB (size : Nat) (f : Fra) : List UInt8 := bodyB size f ++ le 4 (crc (bodyB size f)).toNat
def putR (size : Int) (f : Fra) : List UInt8 × Int := if roomOf size = 0 then ([], 2) else if ((B f.2.2).length : Int) > roomOf size then ([], 3) else (putB size.toNat f, 0)
def frameB (bs : List UInt8) : Fra := (bs.getD 0 0, lev ((bs.drop 4).take 8), ⟨((bs.drop 12).take (lev ((bs.drop 2).take 2))).toArray⟩)
def getR (bs : List UInt8) : Fra × Int :=
  if roomOf bs.length = 0 then (fra0, 2)
  else if (crc (bs.take (bs.length - 4))).toNat ≠ lev (bs.drop (bs.length - 4)) then (fra0, 10)
  else if (lev ((bs.drop 2).take 2) : Int) > roomOf bs.length then (fra0, 4)
  else if putR bs.length (frameB bs) = (bs, 0) then (frameB bs, 0) else (fra0, 4)
def kindR (bs : List UInt8) (tag : UInt8) : Fra × Int := if (getR bs).2 = 0 ∧ (getR bs).1.1 ≠ tag then (fra0, 11) else getR bs
theorem headB_length (f : Fra) : (headB f).length = 12 := by simp [headB, le_length]
theorem bodyB_length {size : Nat} {f : Fra} (h : (B f.2.2).length + 16 ≤ size) : (bodyB size f).length = size - 4 := by
  simp only [bodyB, List.length_append, headB_length, List.length_replicate]; omega
theorem putB_length {size : Nat} {f : Fra} (h : (B f.2.2).length + 16 ≤ size) : (putB size f).length = size := by
  simp only [putB, List.length_append, bodyB_length h, le_length]; omega
theorem roomOf_cases (size : Int) : roomOf size = 0 ∨ (roomOf size = size - 16 ∧ 128 ≤ size ∧ size ≤ 4096 ∧ geoOK size 8 = true) := by
  unfold roomOf
  cases h : geoOK size 8 with
  | false => left; rfl
  | true =>
    right
    have h2 := h
    unfold geoOK at h2
    have h2 := of_decide_eq_true h2
    exact ⟨rfl, by omega, by omega, rfl⟩
theorem putR_ok {size : Int} {f : Fra} (h : (putR size f).2 = 0) : roomOf size = size - 16 ∧ 128 ≤ size ∧ size ≤ 4096 ∧ (B f.2.2).length + 16 ≤ size.toNat ∧ (putR size f).1 = putB size.toNat f := by
  unfold putR at h ⊢
  rcases roomOf_cases size with h0 | ⟨h0, h1, h2, _⟩
  · rw [if_pos h0] at h; cases h
  · rw [if_neg (by omega)] at h ⊢
    split at h
    · cases h
    · rename_i hr
      rw [if_neg hr]
      exact ⟨h0, h1, h2, by omega, rfl⟩
theorem lev_le2 {n : Nat} (h : n < 65536) : lev (le 2 n) = n := by rw [lev_le]; omega
theorem lev_le8 {n : Nat} (h : n < 18446744073709551616) : lev (le 8 n) = n := by rw [lev_le]; omega
/-- What is put is got. -/
theorem getR_putB {size : Nat} {f : Fra} (hr : roomOf size = (size : Int) - 16) (h1 : 128 ≤ size) (h2 : size ≤ 4096) (hd : (B f.2.2).length + 16 ≤ size) (hg : f.2.1 < 18446744073709551616) : getR (putB size f) = (f, 0) := by
  have hlen := putB_length hd
  have hbl := bodyB_length hd
  have hlt := (crc (bodyB size f)).isLt
  have e1 : (putB size f).take (size - 4) = bodyB size f := by unfold putB; rw [List.take_left' hbl]
  have e2 : (putB size f).drop (size - 4) = le 4 (crc (bodyB size f)).toNat := by unfold putB; rw [List.drop_left' hbl]
  have e3 : lev (le 4 (crc (bodyB size f)).toNat) = (crc (bodyB size f)).toNat := by rw [lev_le]; omega
  have epre : putB size f = [f.1, 0] ++ (le 2 (B f.2.2).length ++ (le 8 f.2.1 ++ (B f.2.2 ++ (List.replicate (size - 16 - (B f.2.2).length) 0 ++ le 4 (crc (bodyB size f)).toNat)))) := by
    simp [putB, bodyB, headB]
  have e4 : ((putB size f).drop 2).take 2 = le 2 (B f.2.2).length := by
    rw [epre, List.drop_left' (i := 2) (l₁ := [f.1, 0]) (show [f.1, 0].length = 2 from rfl), List.take_left' (le_length _ _)]
  have e5 : ((putB size f).drop 4).take 8 = le 8 f.2.1 := by
    rw [epre, ← List.append_assoc, List.drop_left' (by simp [le_length]), List.take_left' (le_length _ _)]
  have e6 : ((putB size f).drop 12).take (B f.2.2).length = B f.2.2 := by
    rw [epre, ← List.append_assoc, ← List.append_assoc, List.drop_left' (by simp [le_length]), List.take_left' rfl]
  have e7 : (putB size f).getD 0 0 = f.1 := by rw [epre]; rfl
  have e8 : lev (((putB size f).drop 2).take 2) = (B f.2.2).length := by rw [e4]; exact lev_le2 (by omega)
  have ef : frameB (putB size f) = f := by
    unfold frameB
    rw [e8, e6, e7, e5, lev_le8 hg]
    rfl
  unfold getR
  rw [hlen, e1, e2, e3, e8, ef, if_neg (by omega), if_neg (by simp), if_neg (by omega)]
  have : putR size f = (putB size f, 0) := by
    unfold putR
    rw [if_neg (by omega), if_neg (by omega), Int.toNat_natCast]
  rw [if_pos this]
theorem getR_ok {bs : List UInt8} (h : (getR bs).2 = 0) : (getR bs).1 = frameB bs ∧ putR bs.length (frameB bs) = (bs, 0) := by
  unfold getR at h ⊢
  split at h
  · cases h
  · split at h
    · cases h
    · split at h
      · cases h
      · split at h
        · rename_i h1 h2 h3 h4
          rw [if_neg h1, if_neg h2, if_neg h3, if_pos h4]
          exact ⟨rfl, h4⟩
        · cases h
theorem getR_bad {bs : List UInt8} (h : (getR bs).2 ≠ 0) : (getR bs).1 = fra0 := by
  unfold getR at h ⊢
  split
  · rfl
  · split
    · rfl
    · split
      · rfl
      · split
        · rename_i h1 h2 h3 h4
          rw [if_neg h1, if_neg h2, if_neg h3, if_pos h4] at h
          exact absurd rfl h
        · rfl
theorem frameB_gen (bs : List UInt8) : (frameB bs).2.1 < 18446744073709551616 := by
  have h := lev_lt ((bs.drop 4).take 8)
  have h2 : ((bs.drop 4).take 8).length ≤ 8 := by simp; omega
  have : 256 ^ ((bs.drop 4).take 8).length ≤ 256 ^ 8 := Nat.pow_le_pow_right (by omega) h2
  unfold frameB
  dsimp only
  omega
theorem getR_gen (bs : List UInt8) : (getR bs).1.2.1 < 18446744073709551616 := by
  by_cases h : (getR bs).2 = 0
  · rw [(getR_ok h).1]; exact frameB_gen bs
  · rw [getR_bad h]; decide
def fraEq (a b : Fra) : Bool := ((a.1.toNat : Int) == (b.1.toNat : Int)) && (((a.2.1 : Int) == (b.2.1 : Int)) && (decide (B a.2.2 = B b.2.2) && true))
theorem fraEq_iff {a b : Fra} : fraEq a b = true ↔ a = b := by
  unfold fraEq
  simp only [Bool.and_eq_true, decide_eq_true_eq, beq_iff_eq, and_true]
  constructor
  · rintro ⟨h1, h2, h3⟩
    exact Prod.ext (UInt8.toNat_inj.1 (by omega)) (Prod.ext (by omega) (B_inj h3))
  · rintro rfl
    exact ⟨rfl, rfl, rfl⟩
theorem fields_fra (w : World) (a b : Fra) : (Op.eqFields 9999 (fV a).toArray (fV b).toArray (Try.prog.fieldsOf 49).toList).run Try.prog w = .ok (fraEq a b) w := by
  have hf : (Try.prog.fieldsOf 49).toList = [(Try.prog.fieldsOf 49).getD 0 default, (Try.prog.fieldsOf 49).getD 1 default, (Try.prog.fieldsOf 49).getD 2 default] := by kernel_rfl
  rw [hf]
  unfold fraEq
  rw [← str_beq]
  refine eqFields_step (of_decide_eq_true (by kernel_rfl)) (a := .int .u8 (a.1.toNat : Int)) (b := .int .u8 (b.1.toNat : Int)) (by kernel_rfl) (by kernel_rfl) (run_equalIn_int w 9998 _ .u8 .u8 _ _ (by kernel_rfl)) ?_
  refine eqFields_step (of_decide_eq_true (by kernel_rfl)) (a := .int .u64 (a.2.1 : Int)) (b := .int .u64 (b.2.1 : Int)) (by kernel_rfl) (by kernel_rfl) (run_equalIn_int w 9998 _ .u64 .u64 _ _ (by kernel_rfl)) ?_
  refine eqFields_step (of_decide_eq_true (by kernel_rfl)) (a := .string a.2.2) (b := .string b.2.2) (by kernel_rfl) (by kernel_rfl) (run_equalIn_string w 9998 _ _ _ (by kernel_rfl)) ?_
  rfl
theorem neq_fra (w : World) (a b : Fra) (x y : Operand) : (eqS .neq 49 x y (.agg (fV a).toArray) (.agg (fV b).toArray)).run Try.prog w = .ok (.bool (!(fraEq a b))) w :=
  eqS_neq (by kernel_rfl) (by kernel_rfl) (by kernel_rfl) (fields_fra w a b)
theorem eql_fra (w : World) (a b : Fra) (x y : Operand) : (eqS .eql 49 x y (.agg (fV a).toArray) (.agg (fV b).toArray)).run Try.prog w = .ok (.bool (fraEq a b)) w :=
  eqS_eql (by kernel_rfl) (by kernel_rfl) (by kernel_rfl) (fields_fra w a b)
/-- octet.Put, where there is room. -/
theorem putfit_calls {w : World} {b o n c v k : Nat} {cs : List Value} {t : TypeId} (hb : Blk w b cs t) (ho : o + c ≤ cs.length) (hn : n + k ≤ c) (hc : c ≤ 9223372036854775000) (hv : v < 18446744073709551616) (hk1 : 1 ≤ k) (hk : k ≤ 8) :
    Calls Try.prog 27 #[.slice (some ⟨b, o, none⟩) n c, .int .u64 (v : Int), .int .i64 (k : Int)] w (Ret fun r w' => r = .slice (some ⟨b, o, none⟩) (n + k) c ∧ Blk w' b (cs.take (o + n) ++ bV (le k v) ++ cs.drop (o + n + k)) t ∧ w.grownBy w' (some b)) := by
  apply calls27
  unfold S27
  refine splitW_f (decide_eq_false (by omega)) ?_
  refine splitW_f (decide_eq_false (by omega)) ?_
  refine loopW_i (fun x w' => ∃ i : Nat, i ≤ k ∧ x = ((some ⟨b, o, none⟩, n + i, c), (i : Int), ()) ∧ Blk w' b (cs.take (o + n) ++ bV (le i v) ++ cs.drop (o + n + i)) t ∧ w.grownBy w' (some b)) (fun x => (k - x.2.1).toNat)
    ⟨0, by omega, rfl, by simpa [le, bV] using hb, grownBy_refl _ _⟩ ?_
  rintro _ w' ⟨i, hi, rfl, hbi, hg⟩
  dsimp only
  have hlen : (cs.take (o + n) ++ bV (le i v) ++ cs.drop (o + n + i)).length = cs.length := by
    simp only [List.length_append, List.length_take, List.length_drop, length_bV, le_length]
    omega
  by_cases hlt : i < k
  · refine splitW_t (decide_eq_true (by omega)) ?_
    have e1 : IntKind.wrap .i64 ((8 : Int) * (i : Int)) = ((8 * i : Nat) : Int) := by
      rw [wrap_i64 (by omega) (by omega)]
      omega
    rw [e1]
    refine ⟨by omega, ?_⟩
    rw [ishr_nat .u64 v (8 * i) (by simp [IntKind.bits]; omega), wrap_u8_nat, Nat.pow_mul, show (2 : Nat) ^ 8 = 256 from rfl]
    refine append_newfit (ys := bV [UInt8.ofNat (v / 256 ^ i)]) elem_u8 hbi (by omega) (by simp [bV]; omega) (by omega) (bV_one _) ?_
    intro w2 hb2 hg2
    refine ⟨⟨i + 1, by omega, ?_, ?_, grownBy_tr hg hg2 (fun j hj => .inl hj)⟩, ?_⟩
    · rw [wrap_i64 (by omega) (by omega)]; rfl
    · have hpl : (cs.take (o + n) ++ bV (le i v)).length = o + (n + i) := by
        simp only [List.length_append, List.length_take, length_bV, le_length]; omega
      have e2 : (cs.take (o + n) ++ bV (le i v) ++ cs.drop (o + n + i)).take (o + (n + i)) = cs.take (o + n) ++ bV (le i v) := List.take_left' hpl
      have e3 : (cs.take (o + n) ++ bV (le i v) ++ cs.drop (o + n + i)).drop (o + (n + i) + (bV [UInt8.ofNat (v / 256 ^ i)]).length) = cs.drop (o + n + (i + 1)) := by
        rw [← List.drop_drop, List.drop_left' hpl, List.drop_drop]
        rfl
      rw [e2, e3] at hb2
      rw [le_succ, bV_append, ← List.append_assoc]
      exact hb2
    · rw [wrap_i64 (by omega) (by omega)]; omega
  · obtain rfl : i = k := by omega
    refine splitW_f (decide_eq_false (by omega)) ?_
    exact ⟨rfl, hbi, hg⟩
theorem fput_calls (w : World) (size : Int) {f : Fra} (hg : f.2.1 < 18446744073709551616) : Calls Try.prog 28 #[.int .i64 size, .agg (fV f).toArray] w (Ret fun v w' => v = .tuple #[.string ⟨(putR size f).1.toArray⟩, .int .i64 (putR size f).2] ∧ Ext w w') := by
  apply calls28
  unfold S28 putR
  refine new_i fun r1 w1 hb1 he1 hr1 _ => ?_
  refine callW_of (room_calls w1 size) ?_
  rintro _ w2 ⟨rfl, he2⟩
  refine ⟨_, rfl, ?_⟩
  have he2 := he1.trans he2
  have hb1 := hb1.ext (by assumption)
  have hds := B_size f.2.2
  rcases roomOf_cases size with h0 | ⟨h0, h1, h2, hgeo⟩
  · rw [h0, if_pos rfl]
    exact splitW_t (by rfl) ⟨rfl, he2⟩
  rw [if_neg (by omega)]
  refine splitW_f (by rw [beq_eq_false_iff_ne]; omega) ?_
  refine boxF 2 f.2.2 hb1 (by rfl) ?_
  refine splitW_i (fun hlong => ?_) (fun hfit => ?_)
  · have hlong := of_decide_eq_true hlong
    rw [if_pos (by omega)]
    exact ⟨rfl, he2⟩
  have hfit := of_decide_eq_false hfit
  rw [if_neg (by omega)]
  obtain ⟨sz, rfl⟩ : ∃ sz : Nat, size = sz := ⟨size.toNat, by omega⟩
  rw [Int.toNat_natCast]
  generalize hd : (B f.2.2).length = d at *
  refine make_own (B := w2.heap.size) elem_u8 rfl (Nat.le_refl _) (by omega) (by omega) ?_
  intro w3 ho3 hg3
  have hrow : Blk w3 w2.heap.size (List.replicate sz (.int .u8 0)) 5 := own_full ho3
  have he3 : Ext w w3 := he2.none hg3
  have h23 : Ext w2 w3 := (Ext.refl w2).none hg3
  have hb1 := hb1.ext h23
  have hsz := he2.size
  have hr1lt := he1.size
  have hw1 : r1 < w2.heap.size := by have := (hb1).lt; have := he2.size; have hh : w1.heap.size ≤ w2.heap.size := (by assumption : Ext w1 w2).size; omega
  generalize hbb : w2.heap.size = b at *
  have ez : (List.replicate sz (Value.int .u8 0)) = bV (List.replicate sz 0) := by simp [bV]
  rw [ez] at hrow
  refine draw_i fun w4 he4 _ _ => ?_
  have hrow := hrow.ext he4
  have hb1 := hb1.ext he4
  have he4 := he3.trans he4
  refine guard_i ⟨by omega, by omega, by dsimp only; omega⟩ ?_
  refine box0 (f.1.toNat : Int) hb1 (by rfl) ?_
  have hcut : cutAddr (some (⟨b, 0, none⟩ : Addr)) 0 (Int.toNat 12) 1 = some ⟨b, 0, none⟩ := rfl
  dsimp only
  rw [hcut, show Int.toNat 0 = 0 from rfl, show Int.toNat 12 = 12 from rfl]
  have e0 : #[Value.int .u8 (f.1.toNat : Int), Value.int .u8 0] = (bV [f.1, 0]).toArray := rfl
  rw [e0]
  have grow : ∀ {w' w'' : World}, Ext w w' → w'.grownBy w'' (some b) → Ext w w'' := fun he hg => he.grown hg (fun j hj => by injection hj with hj; omega)
  have keep : ∀ {w' w'' : World} {cs : List Value} {t : TypeId}, Blk w' r1 cs t → w'.grownBy w'' (some b) → Blk w'' r1 cs t := fun h hg => h.grown hg (by simp; omega)
  have hrl : ∀ k : Nat, (bV (List.replicate k (0 : UInt8))).length = k := fun k => by rw [length_bV, List.length_replicate]
  refine append_newfit (ys := bV [f.1, 0]) (n := 0) (c := 12) elem_u8 hrow (by rw [hrl]; omega) (by simp [bV]) (by omega) (bV_one _) ?_
  intro w5 hrow5 hg5
  have he5 := grow he4 hg5
  have hb1 := keep hb1 hg5
  have s5 : (bV (List.replicate sz (0 : UInt8))).take (0 + 0) ++ bV [f.1, 0] ++ (bV (List.replicate sz (0 : UInt8))).drop (0 + 0 + (bV [f.1, 0]).length) = bV ([f.1, 0] ++ List.replicate (sz - 2) 0) := by
    rw [bV_append]
    simp [bV]
  rw [s5] at hrow5
  dsimp only
  refine boxF 2 f.2.2 hb1 (by rfl) ?_
  rw [hds, wrap_u64_nat (by omega)]
  refine callW_of (putfit_calls (o := 0) (n := 0 + (bV [f.1, 0]).length) (c := 12) (k := 2) hrow5 (by rw [length_bV]; simp; omega) (by simp [bV]) (by omega) (by omega) (by omega) (by omega)) ?_
  rintro _ w6 ⟨rfl, hrow6, hg6⟩
  refine ⟨(some ⟨b, 0, none⟩, 0 + (bV [f.1, 0]).length + 2, 12), rfl, ?_⟩
  have he6 := grow he5 hg6
  have hb1 := keep hb1 hg6
  have s6 : (bV ([f.1, 0] ++ List.replicate (sz - 2) 0)).take (0 + (0 + (bV [f.1, 0]).length)) ++ bV (le 2 d) ++ (bV ([f.1, 0] ++ List.replicate (sz - 2) 0)).drop (0 + (0 + (bV [f.1, 0]).length) + 2) = bV (([f.1, 0] ++ le 2 d) ++ List.replicate (sz - 2 - 2) 0) := by
    have := put_at [f.1, 0] (le 2 d) (sz - 2) (by rw [le_length]; omega)
    rw [le_length] at this
    rw [bV_take, bV_drop, ← bV_append, ← bV_append]
    exact congrArg bV this
  rw [s6] at hrow6
  dsimp only
  refine boxF 1 (f.2.1 : Int) hb1 (by rfl) ?_
  refine callW_of (putfit_calls (o := 0) (c := 12) (k := 8) hrow6 (by rw [length_bV]; simp [le_length]; omega) (by simp [bV]) (by omega) hg (by omega) (by omega)) ?_
  rintro _ w7 ⟨rfl, hrow7, hg7⟩
  refine ⟨(some ⟨b, 0, none⟩, 0 + (bV [f.1, 0]).length + 2 + 8, 12), rfl, ?_⟩
  have he7 := grow he6 hg7
  have hb1 := keep hb1 hg7
  have s7 : (bV (([f.1, 0] ++ le 2 d) ++ List.replicate (sz - 2 - 2) 0)).take (0 + (0 + (bV [f.1, 0]).length + 2)) ++ bV (le 8 f.2.1) ++ (bV (([f.1, 0] ++ le 2 d) ++ List.replicate (sz - 2 - 2) 0)).drop (0 + (0 + (bV [f.1, 0]).length + 2) + 8) = bV (headB f ++ List.replicate (sz - 12) 0) := by
    have := put_at ([f.1, 0] ++ le 2 d) (le 8 f.2.1) (sz - 2 - 2) (by rw [le_length]; omega)
    rw [le_length] at this
    have hh : headB f = [f.1, 0] ++ le 2 d ++ le 8 f.2.1 := by unfold headB; rw [hd]
    have hl4 : ([f.1, 0] ++ le 2 d).length = 4 := by simp [le_length]
    rw [hl4] at this
    rw [hh, show sz - 12 = sz - 2 - 2 - 8 by omega, ← this, bV_take, bV_drop, ← bV_append, ← bV_append]
    rfl
  rw [s7] at hrow7
  refine draw_i fun w8 he8 _ _ => ?_
  have hrow8 := hrow7.ext he8
  have hb1 := hb1.ext he8
  have he8 := he7.trans he8
  refine guard_i ⟨by omega, by omega⟩ ?_
  refine boxF 2 f.2.2 hb1 (by rfl) ?_
  have hcut2 : cutAddr (some (⟨b, 0, none⟩ : Addr)) 12 sz 1 = some ⟨b, 12, none⟩ := by
    unfold cutAddr
    rw [if_neg (by show ¬ sz = 12; omega)]
    show some ((⟨b, 0, none⟩ : Addr).add 12) = _
    rw [add_mk, Nat.zero_add]
  rw [hcut2]
  refine copy_str elem_u8 hrow8 (by rw [length_bV, List.length_append, headB_length, List.length_replicate]; omega) ?_
  intro w9 hrow9 hg9
  have he9 := grow he8 hg9
  have s9 : (bV (headB f ++ List.replicate (sz - 12) 0)).take 12 ++ bV ((B f.2.2).take (sz - 12)) ++ (bV (headB f ++ List.replicate (sz - 12) 0)).drop (12 + min (B f.2.2).length (sz - 12)) = bV (bodyB sz f ++ List.replicate 4 0) := by
    have := put_at (headB f) (B f.2.2) (sz - 12) (by omega)
    rw [headB_length] at this
    rw [List.take_of_length_le (show (B f.2.2).length ≤ sz - 12 by omega), Nat.min_eq_left (by omega), bV_take, bV_drop, ← bV_append, ← bV_append, this]
    congr 1
    unfold bodyB
    rw [List.append_assoc (headB f ++ B f.2.2), hd, List.replicate_append_replicate]
    congr 2
    omega
  rw [s9] at hrow9
  have hbody : (bodyB sz f).length = sz - 4 := bodyB_length (by omega)
  refine draw_i fun w10 he10 _ _ => ?_
  have hrow10 := hrow9.ext he10
  have he10 := he9.trans he10
  rw [wrap_i64 (x := (sz : Int) - 4) (by omega) (by omega), show Int.toNat ((sz : Int) - 4) = sz - 4 by omega]
  refine guard_i ⟨by omega, by omega, by omega, by omega⟩ (guard_i ⟨by omega, by omega⟩ ?_)
  have hsl : Sl w10 (cutAddr (some ⟨b, 0, none⟩) 0 sz 1) (sz - 4) (bV (bodyB sz f)) := by
    have := (Sl.of_blk hrow10 (n := sz) (by rw [length_bV, List.length_append, hbody, List.length_replicate]; omega) (by omega)).cut0 (k := sz - 4) (m := sz) (by omega) (by omega)
    rw [bV_take, List.take_left' hbody] at this
    exact this
  refine callW_of (crc_calls hsl) ?_
  rintro _ w11 ⟨rfl, he11⟩
  refine ⟨_, rfl, ?_⟩
  have hrow11 := hrow10.ext he11
  have he11 := he10.trans he11
  have hclt := (crc (bodyB sz f)).isLt
  rw [wrap_u64_nat (by omega)]
  have hcut3 : cutAddr (some (⟨b, 0, none⟩ : Addr)) (sz - 4) sz 1 = some ⟨b, sz - 4, none⟩ := by
    unfold cutAddr
    rw [if_neg (by omega)]
    show some ((⟨b, 0, none⟩ : Addr).add ((sz - 4) * 1)) = _
    rw [add_mk, Nat.zero_add, Nat.mul_one]
  rw [hcut3, Nat.sub_self, show sz - (sz - 4) = 4 by omega]
  refine callW_of (putfit_calls (o := sz - 4) (n := 0) (c := 4) (k := 4) hrow11 (by rw [length_bV, List.length_append, hbody, List.length_replicate]; omega) (by omega) (by omega) (by omega) (by omega) (by omega)) ?_
  rintro _ w12 ⟨rfl, hrow12, hg12⟩
  refine ⟨(some ⟨b, sz - 4, none⟩, 0 + 4, 4), rfl, ?_⟩
  have he12 := grow he11 hg12
  have s12 : (bV (bodyB sz f ++ List.replicate 4 0)).take (sz - 4 + 0) ++ bV (le 4 (crc (bodyB sz f)).toNat) ++ (bV (bodyB sz f ++ List.replicate 4 0)).drop (sz - 4 + 0 + 4) = bV (putB sz f) := by
    have := put_at (bodyB sz f) (le 4 (crc (bodyB sz f)).toNat) 4 (by rw [le_length]; omega)
    rw [hbody, le_length] at this
    rw [bV_take, bV_drop, ← bV_append, ← bV_append, Nat.add_zero, this]
    simp [putB]
  rw [s12] at hrow12
  refine conv_str (e := 5) (by kernel_rfl) (by kernel_rfl) (by kernel_rfl) (Sl.of_blk hrow12 (by rw [length_bV, putB_length (by omega)]) (by omega)) ?_
  exact ⟨rfl, he12⟩
end Go.Proofs.Ytiiemgndnpflbaa.V
