/- Contracts of the package device: Image, Pending, Geo, New, Load, Rot. -/
import Derived.Test.YtpbjbhcejgnhiaaDoorKDev2
import Derived.Laws.CopyRow
set_option linter.unusedVariables false
set_option linter.unusedSimpArgs false
namespace Go.Proofs.YtpbjbhcejgnhiaaDoor.V
open Go Go.Proofs Go.RowKit Crc
section
variable {α : Type} {P : Program} {t e : TypeId} {z : Value} {bytes : Nat} {E : Enc α}
/-- slices.Clone -/
theorem clone_i {w : World} {A : Option Addr} {n c : Nat} {xs : List α} {K : Value → WP} (hE : ElemK P t e z E.k bytes) (h : Sli E w A n xs) (hlen : n * bytes ≤ 140737488355328) (hb : 0 < bytes)
    (hK : ∀ A' c' w', Owni E e w' w.heap.size A' n c' xs → Ext w w' → K (.slice A' n c') w') :
    (splitW (Option.isNone A) (K (.slice none 0 0)) <|
      newW (.cells #[] e) fun (r1 : Nat) => runW P (Builtin.append_ #[t, t] t #[.slice (some (⟨r1, 0, none⟩ : Addr)) 0 0, .slice A n c]) .slc fun (u2 : (Option Addr × Nat × Nat)) => K (.slice u2.1 u2.2.1 u2.2.2)) w := by
  refine splitW_i (fun hA => ?_) (fun hA => ?_)
  · have hA : A = none := by simpa using hA
    subst hA
    obtain rfl : n = 0 := by
      rcases Nat.eq_zero_or_pos n with h0 | h0
      · exact h0
      · obtain ⟨a, h1, _⟩ := h.2.2 h0; cases h1
    obtain rfl : xs = [] := List.eq_nil_of_length_eq_zero h.1
    exact hK none 0 w (Owni.nil _ _ _) (Ext.refl w)
  · apply newW_i
    have he : Ext w (w.alloc (.cells #[] e)) := (Ext.refl w).alloc _
    have ho : Owni E e (w.alloc (.cells #[] e)) w.heap.size (some ⟨w.heap.size, 0, none⟩) 0 0 ([] : List α) := Owni.lit (xs := []) (n := 0) rfl (Nat.le_refl _) (by omega)
    refine append_sli hE ho (by simp) (h.ext he) (by rw [Nat.zero_add]; exact hlen) hb ?_
    intro A' c' w' ho' hg _
    rw [Nat.zero_add] at ho' ⊢
    exact hK A' c' w' (by simpa using ho') (Ext.grown he hg.1 (fun j hj => by injection hj with hj; subst hj; exact Nat.le_refl _))
/-- copy(s, x...) -/
theorem copy_sl {w : World} {b o n c m d : Nat} {ty u t2 : TypeId} {X : Option Addr} {cs ys : List Value} {K : Int → WP} (hE : Elem P t e z bytes) (hb : Blk w b cs t2) (hx : Sl w X m ys) (hys : ∀ y ∈ ys, y.oneCell' = true) (ho : o + min m n ≤ cs.length) (hX : X ≠ none)
    (hK : ∀ w', Blk w' b (cs.take o ++ ys.take (min m n) ++ cs.drop (o + min m n)) t2 → w.grownBy w' (some b) → K ((min m n : Nat) : Int) w') :
    runW P (Builtin.copy_ #[t, u] ty #[.slice (some ⟨b, o, none⟩) n c, .slice X m d]) (.int .i64) K w := by
  obtain ⟨ht, hi, hz⟩ := hE
  obtain ⟨i, hi, hii⟩ := Option.map_eq_some_iff.1 hi
  simp only [Prod.mk.injEq] at hii
  obtain ⟨hz0, hz1, hz2⟩ := hii
  have hl := hx.len
  obtain ⟨a, rfl⟩ := Option.ne_none_iff_exists'.1 hX
  have hlen : (ys.take (min m n)).length = min m n := by rw [List.length_take]; omega
  have hsrc : ∀ j v, (ys.take (min m n))[j]? = some v → w.cell? (a.add j) = some v := fun j v hj => by
    rw [List.getElem?_take] at hj
    split at hj
    · rcases Nat.eq_zero_or_pos m with h0 | h0
      · omega
      · obtain ⟨a', h1, h2⟩ := hx.2.2 h0
        cases h1
        exact h2 j v hj
    · cases hj
  have hr := run_copy_row (P := P) w t u ty e b o n c a m d cs.toArray t2 (ys.take (min m n)) ht (by rw [hi]; simp [hz1]) hb hlen hsrc (by rw [hlen]; simpa using ho) (fun v hv => hys v (List.mem_of_mem_take hv))
  rw [hlen] at hr
  refine ⟨((min m n : Nat) : Int), _, hr, hK _ ?_ ?_⟩
  · have hb' : w.heap[b]? = some (.cells cs.toArray t2 (0, 0)) := hb
    show (w.heap.modify b _)[b]? = _
    rw [Array.getElem?_modify, if_pos rfl, hb']
    simp
  · refine ⟨rfl, rfl, rfl, by simp [World.setRow], fun k hk hne => ?_⟩
    simp [World.setRow]
    rw [Array.getElem?_modify]
    split
    · exact absurd (by subst_vars; rfl) hne
    · rfl
end

theorem elem_strK' : ElemK Tryd.prog 31 9 (.string ByteArray.empty) strE.k 16 := ⟨by kernel_rfl, by kernel_rfl, by kernel_rfl⟩
theorem elem_strS : Elem Tryd.prog 31 9 (.string ByteArray.empty) 16 := ⟨by kernel_rfl, by kernel_rfl, by kernel_rfl⟩
theorem owni_of_blk {α : Type} {E : Enc α} {e : TypeId} {w : World} {B b n : Nat} {xs : List α} (h : Blk w b (E.flat xs) e) (hn : xs.length = n) (hm : n ≤ 9223372036854775807) (hB : B ≤ b) : Owni E e w B (some ⟨b, 0, none⟩) n n xs := by
  refine ⟨by rw [E.flat_length, hn], .inr ⟨b, n, (E.flat xs).toArray, rfl, hB, h, Nat.le_refl _, by simpa [maxLen] using hm, by simp [E.flat_length, hn], ?_⟩⟩
  rw [List.take_of_length_le (by simp [E.flat_length, hn])]
def mkB (bs : List UInt8) : ByteArray := ⟨bs.toArray⟩
theorem B_mkB (bs : List UInt8) : B (mkB bs) = bs := B_mk bs
theorem mkB_B (s : ByteArray) : mkB (B s) = s := B_inj (B_mkB _)
theorem mkB_size (bs : List UInt8) : (mkB bs).size = bs.length := by rw [B_size, B_mkB]
theorem pending_calls {w : World} {b : Nat} {d : Dev} {F : Nat → Prop} (h : DevAt w b d F) (hn : d.pen.length ≤ 1000000) :
    Calls Tryd.prog 16 #[.pointer (some ⟨b, 0, none⟩)] w (Ret fun v w' => ∃ A c, v = .slice A d.pen.length c ∧ Owni writeE 53 w' w.heap.size A d.pen.length c d.pen ∧ Ext w w') := by
  obtain ⟨Ad, Ap, nd, cd, np, cp, t, hb, hd, hp, hF, h1, h2, h3⟩ := h.mem
  apply calls16
  unfold S16
  obtain rfl := hp.len
  refine splitW_f (by rfl) (ptr_i (boxF 3 (Ap, d.pen.length, cp) hb (by rfl) ?_))
  refine callW_of (R := fun v w' => ∃ A c, v = .slice A d.pen.length c ∧ Owni writeE 53 w' w.heap.size A d.pen.length c d.pen ∧ Ext w w') ?_ ?_
  · apply calls43
    unfold S43
    exact clone_i (K := fun v w' => ∃ A c, v = .slice A d.pen.length c ∧ Owni writeE 53 w' w.heap.size A d.pen.length c d.pen ∧ Ext w w') (E := writeE) (n := d.pen.length) (bytes := 24) (z := .agg #[.int .i64 0, .string ByteArray.empty]) elem_write hp.sl (by omega) (by omega) fun A' c' w' ho he => ⟨A', c', rfl, ho, he⟩
  · rintro _ w1 ⟨A, c, rfl, ho, he⟩
    exact ⟨(A, d.pen.length, c), rfl, A, c, rfl, ho, he⟩
theorem clones_calls {w : World} {A : Option Addr} {n c : Nat} {xs : List ByteArray} (h : Sli strE w A n xs) (hn : n ≤ 1000000) :
    Calls Tryd.prog 44 #[.slice A n c] w (Ret fun v w' => ∃ A c, v = .slice A n c ∧ Owni strE 9 w' w.heap.size A n c xs ∧ Ext w w') := by
  apply calls44
  unfold S44
  exact clone_i (K := fun v w' => ∃ A c, v = .slice A n c ∧ Owni strE 9 w' w.heap.size A n c xs ∧ Ext w w') elem_strK' h (by omega) (by omega) fun A' c' w' ho he => ⟨A', c', rfl, ho, he⟩
theorem join_flat : ∀ xs : List ByteArray, Lib.join (xs.map (·.data.toList)) [] = xs.flatMap B
  | [] => rfl
  | [a] => by simp [Lib.join, B]
  | a :: b :: r => by
    have ih := join_flat (b :: r)
    unfold Lib.join at ih ⊢
    simp only [List.map_cons] at ih ⊢
    rw [List.intercalate_cons_cons, ih]
    simp [B]
theorem flat_len {n : Nat} : ∀ xs : List ByteArray, (∀ s ∈ xs, s.size = n) → (xs.flatMap B).length = xs.length * n
  | [], _ => by simp
  | a :: r, h => by
    rw [List.flatMap_cons, List.length_append, flat_len r (fun s hs => h s (List.mem_cons_of_mem _ hs)), List.length_cons, Nat.add_mul, ← B_size, h a List.mem_cons_self]
    omega
theorem Dev.Ok.dims {d : Dev} (h : d.Ok) : 128 ≤ d.size ∧ d.size ≤ 4096 ∧ d.size % 64 = 0 ∧ 8 ≤ d.blocks ∧ d.blocks ≤ 4096 ∧ d.dur.length = d.blocks.toNat := by
  have := h.geo
  unfold geoOK at this
  obtain ⟨h1, h2, h3, h4, h5⟩ := of_decide_eq_true this
  rw [Int.tmod_eq_emod_of_nonneg (by omega)] at h3
  have := h.len
  omega
theorem Dev.Ok.image {d : Dev} (h : d.Ok) : d.image.length = d.blocks.toNat * d.size.toNat := by
  have := h.dims
  unfold Dev.image
  rw [flat_len (n := d.size.toNat) d.dur (fun s hs => by have := h.each s hs; omega), h.dims.2.2.2.2.2]
theorem Dev.Ok.image_le {d : Dev} (h : d.Ok) : d.image.length ≤ 16777216 := by
  rw [h.image]
  have := h.dims
  calc d.blocks.toNat * d.size.toNat ≤ 4096 * 4096 := Nat.mul_le_mul (by omega) (by omega)
    _ = 16777216 := by decide
theorem image_calls {w : World} {b : Nat} {d : Dev} {F : Nat → Prop} (h : DevAt w b d F) :
    Calls Tryd.prog 20 #[.pointer (some ⟨b, 0, none⟩)] w (Ret fun v w' => v = .string (mkB d.image) ∧ Ext w w') := by
  obtain ⟨Ad, Ap, nd, cd, np, cp, t, hb, hd, hp, hF, h1, h2, h3⟩ := h.mem
  apply calls20
  unfold S20
  refine splitW_f (by rfl) (ptr_i (boxF 2 (Ad, nd, cd) hb (by rfl) ?_))
  have hok := h.ok.dims
  have hl := hd.len
  have hle := hd.le
  obtain ⟨a, rfl, hs, hc⟩ := hd.sl.2.2 (by omega)
  obtain ⟨bk, o, sp⟩ := a
  simp only at hs
  subst hs
  obtain rfl := hl
  have hcc : ∀ (j : Nat) x, d.dur[j]? = some x → w.cell? ⟨bk, o + j, none⟩ = some (.string x) := fun j x hx => by
    have := hc j (.string x) (by rw [strE_flat, List.getElem?_map, hx]; rfl)
    rwa [add_mk] at this
  have hj := Tryd.strings_Join bk o cd d.dur (ByteArray.mk #[]) w hcc (hd.row_lt bk rfl) (by omega) hle.1 (by rw [join_flat]; have := h.ok.image_le; unfold Dev.image at this; omega)
  rw [join_flat] at hj
  refine callW_of (R := fun v w' => v = .string (mkB d.image) ∧ Ext w w') (hj.mono ?_) ?_
  · rintro e w' ⟨rfl, he⟩
    exact ⟨rfl, he⟩
  · rintro _ w1 ⟨rfl, he⟩
    exact ⟨_, rfl, rfl, he⟩
theorem geo_calls {w : World} {b : Nat} {d : Dev} {F : Nat → Prop} (h : DevAt w b d F) :
    Calls Tryd.prog 38 #[.pointer (some ⟨b, 0, none⟩)] w (Ret fun v w' => v = .agg #[.int .i64 d.size, .int .i64 d.blocks] ∧ Ext w w') := by
  apply calls38
  unfold S38
  refine new_i fun r1 w1 hb1 he1 hr1 hz1 => ?_
  obtain ⟨Ad, Ap, nd, cd, np, cp, t, hb, hd, hp, hF, h1, h2, h3⟩ := (h.ext he1).mem
  refine splitW_f (by rfl) (ptr_i ?_)
  refine ldA_i (ls := [.int .i64, .int .i64]) (x := (d.size, d.blocks, ())) ⟨by rw [add_mk, hb.cell]; rfl, by rw [add_mk, hb.cell]; rfl, trivial⟩ ?_
  refine refill (vs := [.int .i64 d.size, .int .i64 d.blocks]) hb1 (by rfl) (by intro v hv; simp at hv; rcases hv with rfl | rfl <;> rfl) (by rfl) ?_
  intro w2 hb2 hx2 hk2 hs2
  refine boxA (ls := [.int .i64, .int .i64]) (d.size, d.blocks, ()) hb2 rfl ?_
  exact ⟨rfl, hx2 w he1 (by omega)⟩
theorem mul_calls (w : World) (x y : Nat) (hx : x < 18446744073709551616) (hy : y < 18446744073709551616) : Calls Tryd.prog 52 #[.int .u64 x, .int .u64 y] w (Ret fun v w' => v = .tuple #[.int .u64 ((x * y / 18446744073709551616 : Nat) : Int), .int .u64 ((x * y % 18446744073709551616 : Nat) : Int)] ∧ w' = w) :=
  (Tryd.bits_Mul x y hx hy w).mono (by rintro e w' ⟨rfl, h⟩; exact ⟨rfl, h⟩)
theorem len32_calls (w : World) (m : W32) : Calls Tryd.prog 49 #[.int .u32 (m.toNat : Int)] w (Ret fun v w' => v = .int .i64 (Lib.bitLen m.toNat : Nat) ∧ w' = w) :=
  (Tryd.bits_Len32 (m.toNat : Int) w (by omega) (by have := m.isLt; omega)).mono (by rintro e w' ⟨rfl, h⟩; exact ⟨by rw [Int.toNat_natCast], h⟩)
theorem rep_step {s z : ByteArray} {n c : Nat} (hn : n ≤ c) {m : Nat} (hm : m = min n (c - n)) :
    (strE.flat (List.replicate n s ++ List.replicate (c - n) z)).take n ++ ((strE.flat (List.replicate n s)).take m) ++ (strE.flat (List.replicate n s ++ List.replicate (c - n) z)).drop (n + m) = strE.flat (List.replicate (n + m) s ++ List.replicate (c - (n + m)) z) := by
  simp only [strE_flat, List.map_append, List.map_replicate]
  rw [List.take_left' (by simp), List.drop_append, List.take_replicate, List.drop_replicate, List.drop_replicate, show min m n = m by omega, show n - (n + m) = 0 by omega, List.replicate_zero, List.nil_append, List.length_replicate,
    List.replicate_append_replicate, show c - n - (n + m - n) = c - (n + m) by omega]
theorem rep_calls {w : World} {A : Option Addr} {c k : Nat} {s : ByteArray} (h : Sli strE w A 1 [s]) (h1 : 1 ≤ k) (hk : k ≤ 1000000) :
    Calls Tryd.prog 39 #[.slice A 1 c, .int .i64 (k : Int)] w (Ret fun v w' => ∃ A', v = .slice A' k k ∧ Owni strE 9 w' w.heap.size A' k k (List.replicate k s) ∧ Ext w w') := by
  apply calls39
  unfold S39
  refine joinW_i fun J hJ => splitW_f (decide_eq_false (by omega)) (hJ () _ ?_)
  rw [wrap_u64_nat (by omega), wrap_u64_nat (by omega)]
  refine callW_of (mul_calls w 1 k (by omega) (by omega)) ?_
  rintro _ w1 ⟨rfl, hw⟩
  subst hw
  rw [Nat.one_mul, Nat.div_eq_of_lt (by omega), Nat.mod_eq_of_lt (by omega)]
  refine ⟨((0 : Nat), (k : Nat), ()), rfl, ?_⟩
  dsimp only
  refine joinW_i fun J hJ => splitW_f (by rfl) (splitW_f (decide_eq_false (by omega)) (hJ () _ ?_))
  rw [wrap_i64 (by omega) (by omega)]
  refine make_own (z := .string ByteArray.empty) elem_strS (by rfl) (Nat.le_refl _) (by omega) (by omega) ?_
  intro w2 ho2 hg2
  have he2 : Ext w1 w2 := (Ext.refl w1).none hg2
  have hb2 := own_full ho2
  have e0 : List.replicate k (Value.string ByteArray.empty) = strE.flat (List.replicate 0 s ++ List.replicate (k - 0) ByteArray.empty) := by rw [strE_flat]; simp
  dsimp only
  have hA : A ≠ none := by
    obtain ⟨a, h2, _⟩ := h.2.2 (by omega)
    rw [h2]; simp
  have hsl : Sl w2 A 1 [.string s] := by
    obtain ⟨p1, p2, p3⟩ := h.ext he2
    exact ⟨rfl, by omega, fun hn => by obtain ⟨a, q1, _, q2⟩ := p3 hn; exact ⟨a, q1, q2⟩⟩
  refine copy_sl (o := 0) (n := k) elem_strS hb2 hsl (by intro y hy; simp at hy; subst hy; rfl) (by simp; omega) hA ?_
  intro w3 hb3 hg3
  have he3 : Ext w1 w3 := he2.grown hg3 (fun j hj => by injection hj with hj; omega)
  rw [show min 1 k = 1 by omega] at hb3 ⊢
  have hb3 : Blk w3 w1.heap.size (strE.flat (List.replicate 1 s ++ List.replicate (k - 1) ByteArray.empty)) 9 := by
    have e : List.take 0 (List.replicate k (Value.string ByteArray.empty)) ++ List.take 1 [Value.string s] ++ List.drop (0 + 1) (List.replicate k (Value.string ByteArray.empty)) = strE.flat (List.replicate 1 s ++ List.replicate (k - 1) ByteArray.empty) := by
      rw [strE_flat]; simp
    rw [← e]; exact hb3
  refine loopW_i (fun y w' => ∃ i : Nat, 1 ≤ i ∧ i ≤ k ∧ y = ((i : Int), ()) ∧ Blk w' w1.heap.size (strE.flat (List.replicate i s ++ List.replicate (k - i) ByteArray.empty)) 9 ∧ Ext w1 w') (fun y => (k - y.1).toNat) ⟨1, by omega, h1, rfl, hb3, he3⟩ ?_
  rintro _ w4 ⟨i, hi1, hi, rfl, hb4, he4⟩
  dsimp only
  by_cases hlt : i < k
  · refine splitW_t (decide_eq_true (by omega)) ?_
    refine draw_i fun w5 he5 _ _ => ?_
    have hb5 := hb4.ext he5
    refine guard_i (by omega) (guard_i (by omega) ?_)
    rw [Int.toNat_natCast]
    have hcut : cutAddr (some (⟨w1.heap.size, 0, none⟩ : Addr)) i k 1 = some ⟨w1.heap.size, i, none⟩ := by
      unfold cutAddr
      rw [if_neg (by omega)]
      simp [add_mk]
    have hcut0 : cutAddr (some (⟨w1.heap.size, 0, none⟩ : Addr)) 0 k 1 = some ⟨w1.heap.size, 0, none⟩ := by
      unfold cutAddr
      rw [if_neg (by omega)]
      simp [add_mk]
    rw [hcut, hcut0]
    have hsl5 : Sl w5 (some ⟨w1.heap.size, 0, none⟩) i (strE.flat (List.replicate i s)) := by
      refine ⟨by rw [strE_flat]; simp, by omega, fun _ => ⟨_, rfl, fun j v hj => ?_⟩⟩
      rw [add_mk, hb5.cell, Nat.zero_add, strE_flat, List.map_append, List.getElem?_append_left (by rw [strE_flat] at hj; exact (List.getElem?_eq_some_iff.1 hj).1), ← strE_flat]
      exact hj
    refine copy_sl (n := k - i) elem_strS hb5 hsl5 (strE.flat_one _) (by rw [strE_flat]; simp; omega) (by simp) ?_
    intro w6 hb6 hg6
    rw [rep_step (by omega) rfl] at hb6
    refine ⟨⟨i + min i (k - i), by omega, by omega, by rw [wrap_i64 (by omega) (by omega)]; simp, hb6, (he4.trans he5).grown hg6 (fun j hj => by injection hj with hj; omega)⟩, by rw [wrap_i64 (by omega) (by omega)]; omega⟩
  · obtain rfl : i = k := by omega
    refine splitW_f (decide_eq_false (by omega)) ?_
    refine ⟨_, rfl, owni_of_blk ?_ (by simp) (by omega) (Nat.le_refl _), he4⟩
    simpa using hb4
end Go.Proofs.YtpbjbhcejgnhiaaDoor.V
