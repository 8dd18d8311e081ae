/- Contracts of the package device: Rot. -/
import Derived.Test.YtpbjbhcejgnhiaaDoorKDev4
set_option linter.unusedVariables false
set_option linter.unusedSimpArgs false
namespace Go.Proofs.YtpbjbhcejgnhiaaDoor.V
open Go Go.Proofs Go.RowKit Crc

theorem bitLenAux_spec : ∀ (f x : Nat), x < 2 ^ f → x < 2 ^ Lib.bitLenAux f x ∧ (x ≠ 0 → ∃ j, Lib.bitLenAux f x = j + 1 ∧ x.testBit j = true)
  | 0, x, h => by
    have : x = 0 := by simpa using h
    subst this
    exact ⟨by decide, fun h => absurd rfl h⟩
  | f + 1, x, h => by
    unfold Lib.bitLenAux
    by_cases hx : x = 0
    · subst hx
      exact ⟨by simp, fun h => absurd rfl h⟩
    · rw [if_neg hx]
      obtain ⟨h1, h2⟩ := bitLenAux_spec f (x / 2) (by rw [Nat.pow_succ] at h; omega)
      refine ⟨by rw [Nat.add_comm, Nat.pow_succ]; omega, fun _ => ?_⟩
      by_cases h0 : x / 2 = 0
      · rw [h0] at h1 ⊢
        have hz : Lib.bitLenAux f 0 = 0 := by cases f <;> simp [Lib.bitLenAux]
        have : x = 1 := by omega
        subst this
        exact ⟨0, by rw [hz], by decide⟩
      · obtain ⟨j, e, hj⟩ := h2 h0
        exact ⟨j + 1, by omega, by rw [Nat.testBit_succ]; exact hj⟩
theorem bitLen_spec {x : Nat} (h : x < 2 ^ 64) (t : Nat) : t < Lib.bitLen x ↔ ∃ i, t ≤ i ∧ x.testBit i = true := by
  obtain ⟨h1, h2⟩ := bitLenAux_spec 64 x h
  constructor
  · intro ht
    have hx : x ≠ 0 := by
      rintro rfl
      have : Lib.bitLen 0 = 0 := by decide
      omega
    obtain ⟨j, e, hj⟩ := h2 hx
    exact ⟨j, by unfold Lib.bitLen at ht; omega, hj⟩
  · rintro ⟨i, hi, hb⟩
    rcases Nat.lt_or_ge t (Lib.bitLen x) with h3 | h3
    · exact h3
    · have h5 := Nat.ge_two_pow_of_testBit hb
      have h6 : 2 ^ Lib.bitLenAux 64 x ≤ 2 ^ i := Nat.pow_le_pow_right (by decide) (by unfold Lib.bitLen at h3; omega)
      omega
theorem bitLen32 (m : W32) (t : Nat) : t < Lib.bitLen m.toNat ↔ ∃ i, i < 32 ∧ m.getLsbD i = true ∧ t ≤ i := by
  rw [bitLen_spec (by have := m.isLt; omega)]
  constructor
  · rintro ⟨i, h1, h2⟩
    have h2 : m.getLsbD i = true := h2
    exact ⟨i, BitVec.lt_of_getLsbD h2, h2, h1⟩
  · rintro ⟨i, h1, h2, h3⟩
    exact ⟨i, h3, h2⟩
theorem bitLen_le32 (m : W32) : Lib.bitLen m.toNat ≤ 32 := by
  rcases Nat.lt_or_ge 32 (Lib.bitLen m.toNat) with h | h
  · obtain ⟨i, h1, _, h2⟩ := (bitLen32 m 32).1 h
    omega
  · exact h
theorem flip_len (bs : List UInt8) (bit : Nat) (m : W32) : flip bs bit (Lib.bitLen m.toNat) m = flip bs bit 32 m := by
  have h : ∀ n, Lib.bitLen m.toNat ≤ n → flip bs bit n m = flip bs bit (Lib.bitLen m.toNat) m := by
    intro n hn
    induction n with
    | zero => rw [show Lib.bitLen m.toNat = 0 by omega]
    | succ n ih =>
      by_cases he : Lib.bitLen m.toNat = n + 1
      · rw [he]
      · rw [flip_same, ih (by omega)]
        cases hq : m.getLsbD n with
        | false => rfl
        | true =>
          have := (bitLen_spec (x := m.toNat) (by have := m.isLt; omega) n).2 ⟨n, Nat.le_refl _, hq⟩
          omega
  exact (h 32 (bitLen_le32 m)).symm
def Dev.rotOK (d : Dev) (k bit : Int) (m : W32) : Prop := (0 ≤ k ∧ k < d.blocks) ∧ 0 ≤ bit ∧ bit < 8 * d.size ∧ m ≠ 0 ∧ ∀ i, i < 32 → m.getLsbD i = true → bit + i < 8 * d.size
instance (d : Dev) (k bit : Int) (m : W32) : Decidable (d.rotOK k bit m) := by unfold Dev.rotOK; infer_instance
def Dev.rotted (d : Dev) (k bit : Int) (m : W32) : Dev := { d with dur := d.dur.set k.toNat (mkB (flip (B (d.dur.getD k.toNat ByteArray.empty)) bit.toNat 32 m)) }
def Dev.rot (d : Dev) (k bit : Int) (m : W32) : Dev × Int := if d.rotOK k bit m then (d.rotted k bit m, 0) else (d, 2)
theorem Dev.Ok.at_ {d : Dev} (h : d.Ok) {k : Int} (h0 : 0 ≤ k) (h1 : k < d.blocks) : ((d.dur.getD k.toNat ByteArray.empty).size : Int) = d.size := by
  have := h.dims
  rw [List.getD_eq_getElem?_getD, List.getElem?_eq_getElem (by omega), Option.getD_some]
  exact h.each _ (List.getElem_mem _)
theorem Dev.Ok.rotted {d : Dev} (h : d.Ok) {k bit : Int} {m : W32} (hr : d.rotOK k bit m) : (d.rotted k bit m).Ok := by
  refine ⟨h.geo, ?_, ?_, h.pend, h.fuse⟩
  · show (((d.dur.set _ _).length : Nat) : Int) = d.blocks
    rw [List.length_set]; exact h.len
  · intro s hs
    rcases List.mem_or_eq_of_mem_set hs with hs | rfl
    · exact h.each s hs
    · rw [mkB_size, length_flip, ← B_size]
      exact h.at_ hr.1.1 hr.1.2
theorem DevAt.dur {w w' : World} {b : Nat} {d : Dev} {F : Nat → Prop} {l : List ByteArray} (hok : Dev.Ok { d with dur := l }) {Ad Ap : Option Addr} {nd cd np cp : Nat} {t : TypeId} (hb : Blk w b [.int .i64 d.size, .int .i64 d.blocks, .slice Ad nd cd, .slice Ap np cp, .int .i64 d.ops, .int .i64 d.fuse] t)
    (hd : Owni strE 9 w' 0 Ad nd cd l) (hp : Owni writeE 53 w 0 Ap np cp d.pen) (hg : w.grownBy w' (orow Ad)) (hF : ∀ k, F k ↔ k = b ∨ orow Ad = some k ∨ orow Ap = some k) (h1 : orow Ad ≠ some b) (h2 : orow Ap ≠ some b) (h3 : ∀ j, orow Ad = some j → orow Ap ≠ some j) : DevAt w' b { d with dur := l } F :=
  ⟨⟨Ad, Ap, nd, cd, np, cp, t, hb.grown hg (fun e => h1 e.symm), hd, hp.grown hg (fun j hj e => h3 j hj e), hF, h1, h2, h3⟩, hok⟩
theorem rot_calls {w : World} {b : Nat} {d : Dev} {F : Nat → Prop} (h : DevAt w b d F) (k bit : Int) (m : W32) (hb1 : bit < 9223372036854775808) :
    Calls Tryd.prog 25 #[.pointer (some ⟨b, 0, none⟩), .int .i64 k, .int .i64 bit, .int .u32 (m.toNat : Int)] w (Ret fun v w' => v = .int .i64 (d.rot k bit m).2 ∧ Step w b F (d.rot k bit m).1 w') := by
  have hdim := h.ok.dims
  apply calls25
  unfold S25
  have bad : ∀ w', Ext w w' → ¬ d.rotOK k bit m → Value.int .i64 2 = .int .i64 (d.rot k bit m).2 ∧ Step w b F (d.rot k bit m).1 w' := fun w' he hn => by
    unfold Dev.rot
    rw [if_neg hn]
    exact ⟨rfl, F, h.ext he, fun k hk => .inl hk, Only.of_ext he⟩
  refine splitW_f (by rfl) (draw_i fun w1 he1 _ _ => ?_)
  have hD1 := h.ext he1
  refine callW_of (there_calls hD1 k) ?_
  rintro _ w2 ⟨rfl, hw⟩
  refine ⟨_, rfl, ?_⟩
  obtain rfl : w1 = w2 := hw.symm
  refine splitW_i (fun hz => ?_) (fun hz => ?_)
  · have hz : ¬ (0 ≤ k ∧ k < d.blocks) := of_decide_eq_false (show d.there k = false by simpa using hz)
    exact bad _ he1 (fun x => hz x.1)
  have hth : 0 ≤ k ∧ k < d.blocks := of_decide_eq_true (show d.there k = true by simpa using hz)
  refine splitW_i (fun hz => bad _ he1 (fun x => by have := of_decide_eq_true hz; have := x.2.1; omega)) (fun hz0 => ?_)
  have hz0 := of_decide_eq_false hz0
  obtain ⟨Ad, Ap, nd, cd, np, cp, t, hb, hd, hp, hF, h1, h2, h3⟩ := hD1.mem
  refine ptr_i (box0 d.size hb (by rfl) ?_)
  have e8 : IntKind.wrap .i64 (8 * d.size) = 8 * d.size := wrap_i64 (by omega) (by omega)
  rw [e8]
  refine splitW_i (fun hz => bad _ he1 (fun x => by have := of_decide_eq_true hz; have := x.2.2.1; omega)) (fun hz1 => ?_)
  have hz1 := of_decide_eq_false hz1
  refine splitW_i (fun hz => bad _ he1 (fun x => x.2.2.2.1 (by have := beq_iff_eq.1 hz; apply BitVec.eq_of_toNat_eq; simpa using this))) (fun hz2 => ?_)
  have hz2 : m ≠ 0 := by
    rintro rfl
    exact absurd hz2 (by decide)
  refine ptr_i (box0 d.size hb (by rfl) ?_)
  refine callW_of (len32_calls w1 m) ?_
  rintro _ w3 ⟨rfl, hw⟩
  refine ⟨_, rfl, ?_⟩
  obtain rfl : w1 = w3 := hw.symm
  refine h1_i (held1Z hb (by rfl)) ?_
  have hl32 := bitLen_le32 m
  rw [e8, wrap_i64 (x := 8 * d.size - bit) (by omega) (by omega)]
  refine splitW_i (fun hz => bad _ he1 (fun x => ?_)) (fun hz3 => ?_)
  · have hz := of_decide_eq_true hz
    obtain ⟨i, i1, i2, i3⟩ := (bitLen32 m (8 * d.size - bit).toNat).1 (by omega)
    have := x.2.2.2.2 i i1 i2
    omega
  have hz3 := of_decide_eq_false hz3
  have hok : d.rotOK k bit m := ⟨hth, by omega, by omega, hz2, fun i i1 i2 => by
    rcases Int.lt_or_le (bit + i) (8 * d.size) with q | q
    · exact q
    · have := (bitLen32 m (8 * d.size - bit).toNat).2 ⟨i, i1, i2, by omega⟩
      omega⟩
  refine draw_i fun w4 he4 _ _ => ?_
  have hb := hb.ext he4
  have hd := hd.ext he4
  have hp := hp.ext he4
  have hdl := hd.len
  refine ptr_i (boxF 2 (Ad, nd, cd) hb (by rfl) (ptr_i (boxF 2 (Ad, nd, cd) hb (by rfl) ?_)))
  dsimp only
  have hold := hd.sl
  have hsz := h.ok.at_ hth.1 hth.2
  generalize hs : d.dur.getD k.toNat ByteArray.empty = s at hsz
  have hcell : ∃ p, (p : Addr).spot = none ∧ w4.cell? (p.add (Int.toNat k * 1)) = some (.string s) ∧ Ad = some p := by
    obtain ⟨p, hp1, hp2, hp3⟩ := hold.2.2 (by omega)
    refine ⟨p, hp2, hp3 _ _ ?_, hp1⟩
    rw [strE_flat, Nat.mul_one, List.getElem?_map, ← hs, List.getD_eq_getElem?_getD, List.getElem?_eq_getElem (by omega)]
    rfl
  obtain ⟨p, hp2, hp3, rfl⟩ := hcell
  refine guard_i ⟨hth.1, by omega⟩ (ptr_i (ld_i (l := .str) (x := s) hp3 ?_))
  have he14 := he1.trans he4
  have fin : ∀ w6, Ext w4 w6 → ∀ K : WP, (∀ w7, Step w b F (d.rotted k bit m) w7 → K w7) → (guardW (0 ≤ k ∧ k < ((nd : Nat) : Int)) <| ptrW (some p) fun p17 => stW (p17.add (Int.toNat k * 1)) (.string (mkB (flip (B s) bit.toNat 32 m))) K) w6 := by
    intro w6 he6 K hK
    refine idx_setS (hd.ext he6) hth.1 (by omega) ?_
    intro w7 hd7 hg7
    refine hK w7 ⟨F, ?_, fun k hk => .inl hk, ?_⟩
    · have := DevAt.dur (F := F) (h.ok.rotted hok) (hb.ext he6) (by rw [← hs] at hd7; exact hd7) (hp.ext he6) hg7 hF h1 h2 h3
      exact this
    · exact Only.trans (Only.of_ext (he14.trans he6)) (Only.of_grown (F := F) hg7 (fun j hj => .inl ((hF j).2 (.inr (.inl hj))))) (fun j hj => .inl hj)
  have hres : (d.rot k bit m) = (d.rotted k bit m, 0) := by unfold Dev.rot; rw [if_pos hok]
  have cellE : ∀ {w' : World}, Ext w4 w' → HL w' [((p.add (Int.toNat k * 1)), .string s)] := fun he q hq => by
    obtain rfl := List.mem_singleton.1 hq
    exact he.cell hp3
  have boxE : ∀ {w' : World}, Ext w4 w' → HL w' [((⟨b, 0, none⟩ : Addr).add 2, .slice (some p) nd cd)] := fun he => held1F (hb.ext he) (by rfl)
  have eF : ∀ L : Nat, L = Lib.bitLen m.toNat → flipG (B s) bit (L : Int) m = flip (B s) bit.toNat 32 m := fun L hL => by
    subst hL
    unfold flipG
    rw [if_neg (by omega), Int.toNat_natCast, flip_len]
  have hs64 : s.size ≤ 4096 := by omega
  refine ⟨?_, ?_⟩
  · refine conv_bytes (u := .string) (e := 5) (by kernel_rfl) (by kernel_rfl) (by kernel_rfl) (by omega) ?_
    intro c5 w5 hsl5 he5 _ _
    refine h1_i (boxE he5) ?_
    refine callW_of (len32_calls w5 m) ?_
    rintro _ w6 ⟨rfl, hw⟩
    refine ⟨_, rfl, ?_⟩
    obtain rfl : w5 = w6 := hw.symm
    refine h3_i (cellE he5) (boxE he5) (boxE he5) ?_
    refine callW_of (flip_calls (n := s.size) hsl5 (by omega) (by omega) hb1) ?_
    rintro _ w7 ⟨x7, rfl, ho7, he7⟩
    refine ⟨x7, rfl, ?_⟩
    refine h1_i (boxE (he5.trans he7)) ?_
    refine conv_str (e := 5) (by kernel_rfl) (by kernel_rfl) (by kernel_rfl) ho7.sl ?_
    refine h1_i (boxE (he5.trans he7)) ?_
    rw [eF _ rfl, hres]
    exact fin w7 (he5.trans he7) _ fun w8 hs8 => ⟨rfl, hs8⟩
  · refine callW_of (len32_calls w4 m) ?_
    rintro _ w5 ⟨rfl, hw⟩
    refine ⟨_, rfl, ?_⟩
    obtain rfl : w4 = w5 := hw.symm
    refine h3_i (cellE (Ext.refl _)) (boxE (Ext.refl _)) (boxE (Ext.refl _)) ?_
    refine conv_bytes (u := .string) (e := 5) (by kernel_rfl) (by kernel_rfl) (by kernel_rfl) (by omega) ?_
    intro c5 w5 hsl5 he5 _ _
    refine h1_i (boxE he5) ?_
    refine callW_of (flip_calls (n := s.size) hsl5 (by omega) (by omega) hb1) ?_
    rintro _ w7 ⟨x7, rfl, ho7, he7⟩
    refine ⟨x7, rfl, ?_⟩
    refine h1_i (boxE (he5.trans he7)) ?_
    refine conv_str (e := 5) (by kernel_rfl) (by kernel_rfl) (by kernel_rfl) ho7.sl ?_
    refine h1_i (boxE (he5.trans he7)) ?_
    rw [eF _ rfl, hres]
    exact fin w7 (he5.trans he7) _ fun w8 hs8 => ⟨rfl, hs8⟩
end Go.Proofs.YtpbjbhcejgnhiaaDoor.V
