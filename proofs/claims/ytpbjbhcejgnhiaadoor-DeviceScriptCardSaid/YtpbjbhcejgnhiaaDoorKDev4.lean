/- Contracts of the package device: New, Load, Rot. -/
import Derived.Test.YtpbjbhcejgnhiaaDoorKDev3
set_option linter.unusedVariables false
set_option linter.unusedSimpArgs false
namespace Go.Proofs.YtpbjbhcejgnhiaaDoor.V
open Go Go.Proofs Go.RowKit Crc

def zeroB (n : Nat) : ByteArray := mkB (List.replicate n 0)
theorem zeroB_size (n : Nat) : (zeroB n).size = n := by rw [zeroB, mkB_size]; simp
def dev0 (size blocks : Int) : Dev := ⟨size, blocks, List.replicate blocks.toNat (zeroB size.toNat), [], 0, -1⟩
theorem geo_dims {size blocks : Int} (h : geoOK size blocks = true) : 128 ≤ size ∧ size ≤ 4096 ∧ size % 64 = 0 ∧ 8 ≤ blocks ∧ blocks ≤ 4096 := by
  unfold geoOK at h
  obtain ⟨h1, h2, h3, h4, h5⟩ := of_decide_eq_true h
  rw [Int.tmod_eq_emod_of_nonneg (by omega)] at h3
  omega
theorem dev0_ok {size blocks : Int} (h : geoOK size blocks = true) : (dev0 size blocks).Ok := by
  have := geo_dims h
  refine ⟨h, ?_, ?_, (fun p hp => by cases hp), (by show (-1 : Int) ≤ -1; omega), (by show (-1 : Int) < 9223372036854775808; omega)⟩
  · show ((List.replicate blocks.toNat (zeroB size.toNat)).length : Int) = blocks
    rw [List.length_replicate]; omega
  · intro s hs
    rw [(List.mem_replicate.1 hs).2, zeroB_size]
    show ((size.toNat : Nat) : Int) = size
    omega
/-- A new device. -/
def DevNew (w : World) (d : Dev) (b : Nat) (w' : World) : Prop := ∃ F : Nat → Prop, DevAt w' b d F ∧ (∀ k, F k → w.heap.size ≤ k) ∧ Ext w w'
theorem DevNew.pre {w0 w w' : World} {d : Dev} {b : Nat} (h : DevNew w d b w') (he : Ext w0 w) : DevNew w0 d b w' := by
  obtain ⟨F, h1, h2, h3⟩ := h
  exact ⟨F, h1, fun k hk => Nat.le_trans he.size (h2 k hk), he.trans h3⟩
theorem devAt_new {w : World} {b nd cd : Nat} {Ad : Option Addr} {t : TypeId} {d : Dev} (hb : Blk w b [.int .i64 d.size, .int .i64 d.blocks, .slice Ad nd cd, .slice none 0 0, .int .i64 d.ops, .int .i64 d.fuse] t)
    (hd : Owni strE 9 w 0 Ad nd cd d.dur) (hp : d.pen = []) (hne : orow Ad ≠ some b) (hok : d.Ok) : DevAt w b d (fun k => k = b ∨ orow Ad = some k ∨ orow none = some k) := by
  refine ⟨⟨Ad, none, nd, cd, 0, 0, t, hb, hd, ?_, fun k => Iff.rfl, hne, (fun e => by cases e), (fun j hj e => by cases e)⟩, hok⟩
  rw [hp]
  exact Owni.nil _ _ _
theorem repeat1 (n : Nat) : Lib.repeatL [0] n = List.replicate n (0 : UInt8) := by
  induction n with
  | zero => rfl
  | succ n ih => rw [Lib.repeatL, ih, List.replicate_succ]; rfl
theorem heldAgg {w : World} {b : Nat} {x y : Value} {t : TypeId} (h : Blk w b [x, y] t) : ∀ p ∈ [((⟨b, 0, none⟩ : Addr).add 0, x), ((⟨b, 0, none⟩ : Addr).add 1, y)], w.cell? p.1 = some p.2 := by
  intro p hp
  simp only [List.mem_cons, List.not_mem_nil, or_false] at hp
  rcases hp with rfl | rfl <;> simp [add_mk, h.cell]
theorem held1F {w : World} {b o : Nat} {cs : List Value} {v : Value} {t : TypeId} (h : Blk w b cs t) (hv : cs[o]? = some v) : ∀ p ∈ [((⟨b, 0, none⟩ : Addr).add o, v)], w.cell? p.1 = some p.2 := by
  intro p hp
  obtain rfl := List.mem_singleton.1 hp
  show w.cell? ((⟨b, 0, none⟩ : Addr).add o) = _
  rw [add_mk, h.cell, Nat.zero_add, hv]
theorem held1Z {w : World} {b : Nat} {cs : List Value} {v : Value} {t : TypeId} (h : Blk w b cs t) (hv : cs[0]? = some v) : ∀ p ∈ [((⟨b, 0, none⟩ : Addr), v)], w.cell? p.1 = some p.2 := by
  intro p hp
  obtain rfl := List.mem_singleton.1 hp
  show w.cell? (⟨b, 0, none⟩ : Addr) = _
  rw [h.cell, hv]
abbrev HL (w : World) (l : List (Addr × Value)) : Prop := ∀ p ∈ l, w.cell? p.1 = some p.2
theorem h1_i {w : World} {a : List (Addr × Value)} {K : WP} (ha : HL w a) (hK : K w) : heldW [a] K w :=
  ⟨fun l hl => by rw [List.mem_singleton.1 hl]; exact ha, hK⟩
theorem h2_i {w : World} {a b : List (Addr × Value)} {K : WP} (ha : HL w a) (hb : HL w b) (hK : K w) : heldW [a, b] K w :=
  ⟨fun l hl => by
    simp only [List.mem_cons, List.not_mem_nil, or_false] at hl
    rcases hl with rfl | rfl
    · exact ha
    · exact hb, hK⟩
theorem h3_i {w : World} {a b c : List (Addr × Value)} {K : WP} (ha : HL w a) (hb : HL w b) (hc : HL w c) (hK : K w) : heldW [a, b, c] K w :=
  ⟨fun l hl => by
    simp only [List.mem_cons, List.not_mem_nil, or_false] at hl
    rcases hl with rfl | rfl | rfl
    · exact ha
    · exact hb
    · exact hc, hK⟩
theorem dnew_calls (w : World) (size blocks : Int) :
    Calls Tryd.prog 10 #[.agg #[.int .i64 size, .int .i64 blocks]] w (Ret fun v w' => (geoOK size blocks = true ∧ ∃ b, v = .tuple #[.pointer (some ⟨b, 0, none⟩), .int .i64 0] ∧ DevNew w (dev0 size blocks) b w') ∨ (geoOK size blocks = false ∧ v = .tuple #[.pointer none, .int .i64 2] ∧ Ext w w')) := by
  apply calls10
  unfold S10
  refine new_i fun r1 w1 hb1 he1 hr1 hz1 => ?_
  have hb1 : Blk w1 r1 [.int .i64 size, .int .i64 blocks] 23 := hb1
  refine boxA (ls := [.int .i64, .int .i64]) (size, blocks, ()) hb1 rfl ?_
  refine callW_of (devcheck_calls w1 size blocks) ?_
  rintro _ w2 ⟨rfl, he2⟩
  refine ⟨_, rfl, ?_⟩
  have hb2 := hb1.ext he2
  cases hok : geoOK size blocks with
  | false => exact splitW_t (by rfl) (.inr ⟨rfl, rfl, he1.trans he2⟩)
  | true =>
    have hg := geo_dims hok
    refine splitW_f (by rfl) ?_
    refine draw_i fun w3 he3 _ _ => ?_
    have hb3 := hb2.ext he3
    refine boxA (ls := [.int .i64, .int .i64]) (size, blocks, ()) hb3 rfl ?_
    refine box0 size hb3 (by rfl) (boxF 1 blocks hb3 (by rfl) ?_)
    have hr := Tryd.strings_Repeat (ByteArray.mk #[0]) size.toNat w3 (by omega) (by show 1 * size.toNat ≤ _; omega)
    rw [Int.toNat_of_nonneg (by omega), show (ByteArray.mk #[0]).data.toList = [0] from rfl, repeat1] at hr
    refine callW_of (R := fun v w' => v = .string (zeroB size.toNat) ∧ Ext w3 w') (hr.mono (by rintro e w' ⟨rfl, h⟩; exact ⟨rfl, h⟩)) ?_
    rintro _ w4 ⟨rfl, he4⟩
    refine ⟨_, rfl, ?_⟩
    have hb4 := hb3.ext he4
    refine h2_i (held1F hb4 (by rfl)) (heldAgg hb4) ?_
    refine new_i fun r8 w5 hb8 he5 hr8 hz8 => ?_
    have hb5 := hb4.ext he5
    refine h2_i (held1F hb5 (by rfl)) (heldAgg hb5) ?_
    have hs8 : Sli strE w5 (some ⟨r8, 0, none⟩) 1 [zeroB size.toNat] := Sli.of_blk (E := strE) (xs := [zeroB size.toNat]) hb8 rfl (by omega)
    have hrep := rep_calls (c := 1) (k := blocks.toNat) hs8 (by omega) (by omega)
    rw [Int.toNat_of_nonneg (by omega)] at hrep
    refine callW_of hrep ?_
    rintro _ w6 ⟨A, rfl, ho, he6⟩
    refine ⟨(A, _, _), rfl, ?_⟩
    have hb6 := hb5.ext he6
    refine h1_i (heldAgg hb6) ?_
    refine new_i fun r10 w7 hb10 he7 hr10 hz10 => ?_
    have hb10 : Blk w7 r10 [.int .i64 size, .int .i64 blocks, .slice A blocks.toNat blocks.toNat, .slice none 0 0, .int .i64 0, .int .i64 (-1)] 75 := hb10
    have hall := ((((((he1.trans he2).trans he3).trans he4).trans he5).trans he6).trans he7)
    have hpre := (((((he1.trans he2).trans he3).trans he4).trans he5))
    have hlt : ∀ j, orow A = some j → j < w6.heap.size := ho.row_lt
    refine .inl ⟨rfl, r10, rfl, _, devAt_new (d := dev0 size blocks) hb10 ((ho.ext he7).lower (Nat.zero_le _)) rfl (fun e => by have := hlt _ e; omega) (dev0_ok hok), ?_, hall⟩
    rintro k (rfl | hk | hk)
    · have := (hpre.trans he6).size; omega
    · have := ho.row k hk
      have := hpre.size
      omega
    · cases hk
/-- Bytes in cuts. -/
def cutB (s : ByteArray) (z n : Nat) : List ByteArray := (List.range n).map fun i => s.extract (i * z) ((i + 1) * z)
theorem cutB_length (s : ByteArray) (z n : Nat) : (cutB s z n).length = n := by simp [cutB]
theorem cutB_succ (s : ByteArray) (z n : Nat) : cutB s z (n + 1) = cutB s z n ++ [s.extract (n * z) ((n + 1) * z)] := by simp [cutB, List.range_succ]
theorem cutB_flat (s : ByteArray) (z : Nat) : ∀ n, (cutB s z n).flatMap B = (B s).take (n * z)
  | 0 => by simp [cutB]
  | n + 1 => by
    rw [cutB_succ, List.flatMap_append, cutB_flat s z n, List.flatMap_singleton, B_extract, Nat.add_mul, Nat.one_mul, Nat.add_sub_cancel_left, ← List.take_add]
theorem cutB_size {s : ByteArray} {z n : Nat} (h : n * z ≤ s.size) : ∀ x ∈ cutB s z n, x.size = z := by
  intro x hx
  obtain ⟨i, hi, rfl⟩ := List.mem_map.1 hx
  have hi := List.mem_range.1 hi
  have h1 : (i + 1) * z ≤ n * z := Nat.mul_le_mul_right _ hi
  rw [B_size, B_extract, List.length_take, List.length_drop, ← B_size]
  rw [Nat.add_mul, Nat.one_mul] at h1 ⊢
  omega
def devLoad (size blocks : Int) (s : ByteArray) : Dev := ⟨size, blocks, cutB s size.toNat blocks.toNat, [], 0, -1⟩
theorem devLoad_ok {size blocks : Int} {s : ByteArray} (h : geoOK size blocks = true) (hs : s.size = blocks.toNat * size.toNat) : (devLoad size blocks s).Ok := by
  have := geo_dims h
  refine ⟨h, ?_, ?_, (fun p hp => by cases hp), (by show (-1 : Int) ≤ -1; omega), (by show (-1 : Int) < 9223372036854775808; omega)⟩
  · show ((cutB s size.toNat blocks.toNat).length : Int) = blocks
    rw [cutB_length]; omega
  · intro x hx
    rw [cutB_size (by omega) x hx]
    show ((size.toNat : Nat) : Int) = size
    omega
theorem devLoad_image {size blocks : Int} {s : ByteArray} (hs : s.size = blocks.toNat * size.toNat) : (devLoad size blocks s).image = B s := by
  show (cutB s size.toNat blocks.toNat).flatMap B = _
  rw [cutB_flat, ← hs, B_size, List.take_length]
theorem dload_calls (w : World) (size blocks : Int) (s : ByteArray) (hs0 : s.size ≤ 9223372036854775807) :
    Calls Tryd.prog 24 #[.agg #[.int .i64 size, .int .i64 blocks], .string s] w (Ret fun v w' => (geoOK size blocks = true ∧ s.size = blocks.toNat * size.toNat ∧ ∃ b, v = .tuple #[.pointer (some ⟨b, 0, none⟩), .int .i64 0] ∧ DevNew w (devLoad size blocks s) b w') ∨ (¬ (geoOK size blocks = true ∧ s.size = blocks.toNat * size.toNat) ∧ v = .tuple #[.pointer none, .int .i64 2] ∧ Ext w w')) := by
  apply calls24
  unfold S24
  refine new_i fun r1 w1 hb1 he1 hr1 hz1 => ?_
  have hb1 : Blk w1 r1 [.int .i64 size, .int .i64 blocks] 23 := hb1
  refine boxA (ls := [.int .i64, .int .i64]) (size, blocks, ()) hb1 rfl ?_
  refine callW_of (devcheck_calls w1 size blocks) ?_
  rintro _ w2 ⟨rfl, he2⟩
  refine ⟨_, rfl, ?_⟩
  have hb2 := hb1.ext he2
  cases hok : geoOK size blocks with
  | false => exact splitW_t (by rfl) (.inr ⟨fun h => (by cases h.1), rfl, he1.trans he2⟩)
  | true =>
    have hg := geo_dims hok
    refine splitW_f (by rfl) ?_
    refine box0 size hb2 (by rfl) (boxF 1 blocks hb2 (by rfl) ?_)
    obtain ⟨N, hN⟩ : ∃ N : Nat, blocks = N := ⟨blocks.toNat, by omega⟩
    obtain ⟨z, hz⟩ : ∃ z : Nat, size = z := ⟨size.toNat, by omega⟩
    subst hN hz
    simp only [Int.toNat_natCast]
    have hm : N * z ≤ 16777216 := Nat.le_trans (Nat.mul_le_mul (show N ≤ 4096 by omega) (show z ≤ 4096 by omega)) (by decide)
    have hw : IntKind.wrap .i64 ((z : Int) * (N : Int)) = ((N * z : Nat) : Int) := by
      rw [show (z : Int) * (N : Int) = ((N * z : Nat) : Int) by rw [Int.natCast_mul, Int.mul_comm], wrap_i64 (by omega) (by omega)]
    rw [hw]
    refine splitW_i (fun hq => ?_) (fun hq => ?_)
    · have hq := bne_iff_ne.1 hq
      exact .inr ⟨fun h => hq (by rw [h.2]), (by first | rfl | trivial), he1.trans he2⟩
    have hsz : s.size = N * z := by have := bne_eq_false_iff_eq.1 hq; omega
    refine boxA (ls := [.int .i64, .int .i64]) ((z : Int), (N : Int), ()) hb2 rfl ?_
    refine new_i fun r7 w3 hb7 he3 hr7 hz7 => ?_
    have hb7 : Blk w3 r7 [.int .i64 z, .int .i64 N, .slice none 0 0, .slice none 0 0, .int .i64 0, .int .i64 (-1)] 75 := hb7
    have hb3 := hb2.ext he3
    have hall := (he1.trans he2).trans he3
    refine loopW_i (fun y w' => ∃ (i : Nat) (A : Option Addr) (c : Nat), i ≤ N ∧ y = (((i * z : Nat) : Int), ()) ∧ Blk w' r7 [.int .i64 z, .int .i64 N, .slice A i c, .slice none 0 0, .int .i64 0, .int .i64 (-1)] 75 ∧ Blk w' r1 [.int .i64 z, .int .i64 N] 23
      ∧ Owni strE 9 w' w3.heap.size A i c (cutB s z i) ∧ Ext w w' ∧ w3.heap.size ≤ w'.heap.size) (fun y => (s.size - y.1).toNat) ⟨0, none, 0, by omega, by simp, hb7, hb3, Owni.nil _ _ _, hall, Nat.le_refl _⟩ ?_
    rintro _ w4 ⟨i, A, c, hi, rfl, hb7, hb1, ho, hx, hs4⟩
    dsimp only
    by_cases hlt : i < N
    · have h1 : (i + 1) * z ≤ N * z := Nat.mul_le_mul_right _ hlt
      have h1' : (i + 1) * z = i * z + z := by rw [Nat.add_mul, Nat.one_mul]
      refine splitW_t (decide_eq_true (by omega)) ?_
      refine draw_i fun w5 he5 hs5 hk5 => ?_
      refine ptr_i (boxF 2 (A, i, c) (hb7.ext he5) (by rfl) (box0 (z : Int) (hb1.ext he5) (by rfl) ?_))
      dsimp only
      have ew : IntKind.wrap .i64 (((i * z : Nat) : Int) + (z : Int)) = (((i + 1) * z : Nat) : Int) := by rw [wrap_i64 (by omega) (by omega)]; omega
      rw [ew]
      refine guard_i ⟨by omega, by omega, by omega⟩ ?_
      simp only [Int.toNat_natCast]
      refine new_i fun r13 w6 hb13 he6 hr13 hz13 => ?_
      have hb7 := (hb7.ext he5).ext he6
      have hb1 := (hb1.ext he5).ext he6
      have ho := (ho.ext he5).ext he6
      have hx := (hx.trans he5).trans he6
      refine h1_i (held1F hb7 (by rfl)) ?_
      have hs13 : Sli strE w6 (some ⟨r13, 0, none⟩) 1 [s.extract (i * z) ((i + 1) * z)] := Sli.of_blk (E := strE) (xs := [s.extract (i * z) ((i + 1) * z)]) hb13 rfl (by omega)
      refine append_sli (E := strE) elem_strK' ho (by omega) hs13 (by omega) (by omega) ?_
      intro A' c' w7 ho7 hg7 _
      have h7lt := hb7.lt
      have hbl : ∀ j, orow A = some j → w3.heap.size ≤ j := ho.row
      have hb7 := hb7.grown hg7.1 (fun e => by have := hbl r7 e.symm; omega)
      have hb1 := hb1.grown hg7.1 (fun e => by have := hbl r1 e.symm; have := hb2.lt; have := he3.size; omega)
      have hx := hx.grown hg7.1 (fun j hj => by have := hbl j hj; have := hall.size; omega)
      have hs7 := hg7.1.size
      refine ptr_i ?_
      rw [add_mk]
      refine stW_blk hb7 (by show 0 + 2 < 6; omega) ?_
      have hg8 := set_grown w7 r7 (0 + 2) (.slice A' (i + 1) c')
      have hb7 := hb7.set (0 + 2) (.slice A' (i + 1) c')
      have hb1 := hb1.grown hg8 (fun e => by injection e with e; have := hb2.lt; omega)
      have hx := hx.grown hg8 (fun j hj => by injection hj with hj; have := hall.size; have := (he1.trans he2).size; omega)
      have ho8 := ho7.grown hg8 (fun j hj e => by injection hj with hj; subst hj; have := ho7.row _ e; omega)
      refine box0 (z : Int) hb1 (by rfl) ?_
      rw [ew]
      refine ⟨⟨i + 1, A', c', hlt, rfl, hb7, hb1, by rw [cutB_succ]; exact ho8, hx, Nat.le_trans (by have := he5.size; have := he6.size; omega) hg8.size⟩, ?_⟩
      omega
    · obtain rfl : i = N := by omega
      refine splitW_f (decide_eq_false (by omega)) ?_
      have h7lt := hb7.lt
      have hne : orow A ≠ some r7 := fun e => by have := ho.row _ e; omega
      refine .inl ⟨trivial, hsz, r7, rfl, _, devAt_new (d := devLoad z i s) hb7 (by show Owni _ _ _ _ _ _ _ (cutB s (z : Int).toNat (i : Int).toNat); rw [Int.toNat_natCast, Int.toNat_natCast]; exact ho.lower (Nat.zero_le _)) rfl hne (devLoad_ok hok (by rw [Int.toNat_natCast, Int.toNat_natCast]; exact hsz)), ?_, hx⟩
      rintro k (rfl | hk | hk)
      · have := (he1.trans he2).size; omega
      · have := ho.row k hk
        have := hall.size
        omega
      · cases hk
end Go.Proofs.YtpbjbhcejgnhiaaDoor.V
