/- Texts of mine, merged (wip/tool/mergep.py): M7. -/
import Derived.Test.YtjdmggaeagnolaaGreatDoorM6
/- Texts of mine, merged (wip/tool/mergep.py): M7. -/
/- Texts of mine, merged (wip/tool/mergep.py): LC, LCr. -/
/- Law 13: SpaceCrash. -/
set_option linter.unusedVariables false
set_option linter.unusedSimpArgs false
namespace Go.Proofs.YtjdmggaeagnolaaGreatDoor.V
open Go Go.Proofs Go.RowKit Crc
def actT (a : ActV) : Int × Int × Int × Int × ByteArray × Unit := (a.1, (a.2.1.toNat : Int), a.2.2.1, a.2.2.2.1, a.2.2.2.2, ())
abbrev actLs : List Lf := [.int .i64, .int .u8, .int .i64, .int .i64, .str]
theorem light_bounds {size blocks : Int} (h : lightGeo size blocks = true) (hg : geoOK size blocks = true) : size ≤ 512 ∧ blocks ≤ 40 := by
  obtain ⟨g1, g2, g3, g4, g5⟩ := geo_dims hg
  unfold lightGeo at h
  rw [if_neg (by omega)] at h
  exact of_decide_eq_true h
theorem acts_loop {w3 w5 : World} {size : Int} {N P r db n : Nat} {A : Option Addr} {acts : List ActV} {K : WP} (ha3 : Sli actE w3 A n acts) (hq : ∀ a ∈ acts, actQ a) (h600 : ∀ a ∈ acts, a.2.2.2.2.size ≤ 600) (hn : n ≤ 60) (hN : N ≤ 40)
    (h0 : DoR w3 r db size N P 0 w5) (hK : ∀ w', DoR w3 r db size N P n w' → K w') :
    loopW (Int × Unit) ((0 : Int), ()) (fun (y9 : Int × Unit) (I8 : (Int × Unit) → WP) =>
      splitW (decide (y9.1 < ((n : Nat) : Int))) (guardW (0 ≤ y9.1 ∧ y9.1 < ((n : Nat) : Int)) <|
        ptrW A fun (p10 : Addr) =>
        ldAW [(.int .i64), (.int .u8), (.int .i64), (.int .i64), .str] (p10.add (Int.toNat y9.1 * 5)) fun (u11 : Int × Int × Int × Int × ByteArray × Unit) =>
        callW Tryz.prog 8 [(.pointer (some (⟨r, 0, none⟩ : Addr))), (.agg #[(.int .i64 u11.1), (.int .u8 u11.2.1), (.int .i64 u11.2.2.1), (.int .i64 u11.2.2.2.1), (.string u11.2.2.2.2.1)])] (.many [(.one (.int .u32)), (.one (.int .i64))]) fun (u12 : Int × Int × Unit) => I8 ((IntKind.wrap .i64 (y9.1 + (1 : Int))), ())) K) w5 := by
  have hal := ha3.len
  refine loopW_i (fun y w' => ∃ i : Nat, i ≤ n ∧ y = ((i : Int), ()) ∧ DoR w3 r db size N P i w') (fun y => (n - y.1).toNat) ⟨0, by omega, rfl, h0⟩ ?_
  rintro _ w7 ⟨i, hi, rfl, hd⟩
  dsimp only
  by_cases hlt : i < n
  · refine splitW_t (decide_eq_true (by omega)) ?_
    obtain ⟨b7, S7, F7, xo, xh, xm, own, held, mark, mk, root, h7, hI⟩ := hd
    have hmem : acts.getD i act0 ∈ acts := by rw [List.getD_eq_getElem?_getD, List.getElem?_eq_getElem (by omega)]; exact List.getElem_mem _
    refine idx_A (E := actE) (ls := actLs) actT act0 (ha3.ext h7.x) (fun _ => rfl) rfl (by omega) (by omega) ?_
    rw [Int.toNat_natCast]
    refine callW_of (do_run h7 hI (by omega) (by omega) (hq _ hmem) (h600 _ hmem)) ?_
    rintro _ w8 ⟨m, e, rfl, he, hd8⟩
    refine ⟨((m : Int), e, ()), rfl, ?_⟩
    exact ⟨⟨i + 1, by omega, by rw [wrap_i64 (by omega) (by omega)]; rfl, hd8⟩, by rw [wrap_i64 (by omega) (by omega)]; omega⟩
  · obtain rfl : i = n := by omega
    exact splitW_f (decide_eq_false (by omega)) (hK _ hd)
theorem tellM6 : ∀ d, d ≤ 6 → tellM d ≤ 4000000000000000 := by
  intro d hd
  have h6 : tellM 6 ≤ 4000000000000000 := by decide
  have mono : ∀ k, tellM k ≤ tellM (k + 1) := fun k => by show _ ≤ 520 + 128 * (tellM k + 1); omega
  have h : ∀ j, tellM d ≤ tellM (d + j) := fun j => by
    induction j with
    | zero => exact Nat.le_refl _
    | succ j ih => exact Nat.le_trans ih (mono (d + j))
  have := h (6 - d)
  rw [show d + (6 - d) = 6 by omega] at this
  omega
variable {w : World} {b db : Nat} {S : Spa} {F : Nat → Prop}
theorem sp_dev {w : World} {b db : Nat} {S : Spa} {F : Nat → Prop} (h : SpAt w b db S F) : ∃ Fd, DevAt w db S.dev Fd ∧ ∀ k, Fd k → F k := by
  obtain ⟨Fd, x, hb, hr, nb, nr, m, h⟩ := h
  exact ⟨Fd, h.dev, fun k hk => (h.own k).2 (.inl hk)⟩
theorem sp_dims {w : World} {b db : Nat} {S : Spa} {F : Nat → Prop} (h : SpAt w b db S F) : SpDims S ∧ S.Ok := by
  obtain ⟨Fd, x, hb, hr, nb, nr, m, h⟩ := h
  exact ⟨h.dims, h.ok⟩
theorem get_kids {S : Spa} (n : Nat) : ∀ k ∈ (S.get n).1.2.1, k < S.N := by
  unfold Spa.get
  split
  · intro k hk; cases hk
  · split
    · intro k hk; cases hk
    · intro k hk; exact (pageR_kids.2 k hk).2
theorem conv1 {w : World} {r : Nat} {u : UInt8} (h : Blk w r [.int .u8 (u.toNat : Int)] 5) {K : ByteArray → WP} (hK : K (mkB [u]) w) : runW Tryz.prog (Go.convert 93 9 (.slice (some (⟨r, 0, none⟩ : Addr)) 1 1)) .str K w := by
  have hs : Sl w (some ⟨r, 0, none⟩) 1 (bV [u]) := Sl.of_blk (by exact h) rfl (by omega)
  exact conv_str (e := 5) (by kernel_rfl) (by kernel_rfl) (by kernel_rfl) hs hK
theorem tell_calls (h512 : S.dev.size ≤ 512) : ∀ (d n : Nat) (w : World), d ≤ 6 → n < 4294967296 → SpAt w b db S F →
    Calls Tryz.prog 11 #[.pointer (some ⟨b, 0, none⟩), .int .u32 (n : Int), .int .i64 (d : Int)] w (Ret fun v w' => v = .string (mkB (tellF S.get d n)) ∧ Ext w w') := by
  intro d
  induction d with
  | zero =>
    intro n w _ hn h
    apply calls11
    unfold S11
    refine callW_of (sp_get h hn) ?_
    rintro _ w1 ⟨y, rfl, hoy, he1⟩
    refine ⟨(pgT (S.get n).1 y, (S.get n).2, ()), rfl, ?_⟩
    refine new_i fun r2 w2 hb2 he2 hr2 _ => ?_
    refine refill (vs := pgV (S.get n).1 y) hb2 (by rfl) (pgV_one _ y) (by rfl) fun w3 hb3 hx3 hk3 hz3 => ?_
    have hx : Ext w w3 := hx3 w (he1.trans he2) (by have := he1.size; omega)
    refine splitW_i (fun _ => ⟨rfl, hx⟩) (fun _ => splitW_t (by rfl) ⟨rfl, hx⟩)
  | succ d ih =>
    intro n w hd hn h
    have hdo : S.dev.Ok := by obtain ⟨Fd, hD, _⟩ := sp_dev h; exact hD.ok
    obtain ⟨hdim, hok⟩ := sp_dims h
    have hlen := get_len hdo
    have hd5 : S.dev.size.toNat ≤ 512 := by omega
    have hN := hdim.n
    have hTl := tell_len (g := S.get) (fun m => by have := hlen m; omega) d
    have hM := tellM6 (d + 1) hd
    have hMd : tellM (d + 1) = 520 + 128 * (tellM d + 1) := rfl
    apply calls11
    unfold S11
    refine callW_of (sp_get h hn) ?_
    rintro _ w1 ⟨y, rfl, hoy, he1⟩
    refine ⟨(pgT (S.get n).1 y, (S.get n).2, ()), rfl, ?_⟩
    refine new_i fun r2 w2 hb2 he2 hr2 hz2 => ?_
    refine refill (vs := pgV (S.get n).1 y) hb2 (by rfl) (pgV_one _ y) (by rfl) fun w3 hb3 hx3 hk3 hz3 => ?_
    have hx : Ext w w3 := hx3 w (he1.trans he2) (by have := he1.size; omega)
    have hx1 : Ext w1 w3 := hx3 w1 he2 (by omega)
    have hoy3 := hoy.ext hx1
    have hl := hlen n
    have hkids := get_kids (S := S) n
    unfold tellF
    generalize S.get n = g at *
    obtain ⟨p, e⟩ := g
    dsimp only at hl hkids hoy3 hb3 ⊢
    refine splitW_i (fun hne => ?_) (fun hne => ?_)
    · rw [if_pos (bne_iff_ne.1 hne)]
      exact ⟨rfl, hx⟩
    have hne : e = 0 := bne_eq_false_iff_eq.1 hne
    rw [if_neg (fun hh => hh hne)]
    refine splitW_f (beq_eq_false_iff_ne.2 (by omega)) ?_
    refine box0 (l := .int .u8) (p.1.toNat : Int) hb3 (by rfl) ?_
    refine new_i fun r4 w4 hb4 he4 hr4 _ => ?_
    refine conv1 (by exact hb4) ?_
    have hb34 := hb3.ext he4
    refine boxF (l := .str) 2 p.2.2 hb34 (by rfl) ?_
    have h1s : (mkB [p.1]).size = 1 := by rw [mkB_size]; rfl
    refine guard_i (by show (((mkB [p.1]).size + p.2.2.size : Nat) : Int) ≤ 9223372036854775807; omega) ?_
    refine guard_i (by show (((mkB [p.1] ++ p.2.2).size + (ByteArray.mk #[40]).size : Nat) : Int) ≤ 9223372036854775807; rw [ByteArray.size_append]; show (((mkB [p.1]).size + p.2.2.size + 1 : Nat) : Int) ≤ _; omega) ?_
    have hyl := hoy3.len
    have hx4 := hx.trans he4
    have h4 := h.ext hx4
    have hpre : B ((mkB [p.1] ++ p.2.2) ++ ByteArray.mk #[40]) = [p.1] ++ B p.2.2 ++ [40] := by rw [B_append, B_append, B_mkB]; rfl
    have hprel : ([p.1] ++ B p.2.2 ++ [40]).length ≤ 514 := by
      simp only [List.length_append, List.length_singleton]
      have := B_size p.2.2
      omega
    refine loopW_i (fun z w' => ∃ i : Nat, i ≤ p.2.1.length ∧ z.2 = ((i : Int), ()) ∧ Ext w4 w' ∧ B z.1 = ([p.1] ++ B p.2.2 ++ [40]) ++ (p.2.1.take i).flatMap (fun k => tellF S.get d k ++ [44])) (fun z => (p.2.1.length - z.2.1).toNat)
      ⟨0, by omega, rfl, Ext.refl _, by rw [hpre]; simp⟩ ?_
    rintro ⟨out, zi⟩ w5 ⟨i, hi, rfl, hx5, hout⟩
    dsimp only at hout ⊢
    have hb5 := hb34.ext hx5
    have hfl : ∀ l : List Nat, (l.flatMap fun k => tellF S.get d k ++ [44]).length ≤ l.length * (tellM d + 1) := by
      intro l
      induction l with
      | nil => simp
      | cons a r ih2 =>
        have := hTl a
        rw [List.flatMap_cons, List.length_append, List.length_append, List.length_cons (a := a), List.length_singleton, Nat.add_mul]
        omega
    have hi128 : i ≤ 128 := by omega
    have hosz : out.size ≤ 514 + i * (tellM d + 1) := by
      rw [B_size, hout, List.length_append]
      have := hfl (p.2.1.take i)
      rw [List.length_take, Nat.min_eq_left hi] at this
      omega
    have hmul : i * (tellM d + 1) ≤ 128 * (tellM d + 1) := Nat.mul_le_mul_right _ hi128
    refine boxF (l := .slc) 1 y hb5 (by rfl) ?_
    by_cases hlt : i < p.2.1.length
    · refine splitW_t (decide_eq_true (by omega)) ?_
      refine boxF (l := .slc) 1 y hb5 (by rfl) ?_
      have hsl := (hoy3.ext he4).ext hx5
      refine idx_num hsl.sl (by omega) (by omega) ?_
      rw [Int.toNat_natCast]
      have hki : p.2.1[i]? = some (p.2.1.getD i 0) := by rw [List.getD_eq_getElem?_getD, List.getElem?_eq_getElem hlt]; rfl
      have hkN := hkids _ (List.mem_of_getElem? hki)
      have wd : IntKind.wrap .i64 (((d + 1 : Nat) : Int) - 1) = (d : Int) := by rw [wrap_i64 (by omega) (by omega)]; omega
      rw [wd]
      refine callW_of (ih (p.2.1.getD i 0) w5 (by omega) (by omega) (h4.ext hx5)) ?_
      rintro _ w6 ⟨rfl, he6⟩
      refine ⟨_, rfl, ?_⟩
      have ht := hTl (p.2.1.getD i 0)
      have hmsz : (mkB (tellF S.get d (p.2.1.getD i 0))).size ≤ tellM d := by rw [mkB_size]; exact ht
      refine guard_i (by show ((out.size + (mkB (tellF S.get d (p.2.1.getD i 0))).size : Nat) : Int) ≤ 9223372036854775807; omega) ?_
      refine guard_i (by show (((out ++ mkB (tellF S.get d (p.2.1.getD i 0))).size + (ByteArray.mk #[44]).size : Nat) : Int) ≤ 9223372036854775807; rw [ByteArray.size_append]; show ((out.size + (mkB (tellF S.get d (p.2.1.getD i 0))).size + 1 : Nat) : Int) ≤ _; omega) ?_
      have wi : IntKind.wrap .i64 ((i : Int) + 1) = ((i + 1 : Nat) : Int) := by rw [wrap_i64 (by omega) (by omega)]; rfl
      rw [wi]
      refine ⟨⟨i + 1, by omega, rfl, hx5.trans he6, ?_⟩, by omega⟩
      rw [B_append, B_append, B_mkB, hout, take_snoc hki, List.flatMap_append]
      simp only [List.flatMap_cons, List.flatMap_nil, List.append_nil, List.append_assoc]
      rfl
    · obtain rfl : i = p.2.1.length := by omega
      refine splitW_f (decide_eq_false (by omega)) ?_
      refine guard_i (by show ((out.size + (ByteArray.mk #[41]).size : Nat) : Int) ≤ 9223372036854775807; show ((out.size + 1 : Nat) : Int) ≤ _; omega) ?_
      refine ⟨?_, hx4.trans hx5⟩
      rw [List.take_of_length_le (Nat.le_refl _)] at hout
      congr 1
      apply B_inj
      rw [B_mkB, B_append, hout]
      rfl
def chanceF (x was : ByteArray) (pen : List (Int × ByteArray)) : Bool := !(decide (B x = B was)) && (decide ((getS (B x)).2 = 0) && pen.all fun p => !(decide (B p.2 = B x)))
theorem chance_calls {w : World} {db : Nat} {d : Dev} {Fd : Nat → Prop} (h : DevAt w db d Fd) {k : Int} {was : ByteArray} {A : Option Addr} {n c : Nat} {pen : List (Int × ByteArray)} (hp : Sli writeE w A n pen) :
    Calls Tryz.prog 19 #[.pointer (some ⟨db, 0, none⟩), .int .i64 k, .string was, .slice A n c] w (Ret fun v w' => v = .bool (chanceF (d.read k).1 was pen) ∧ Ext w w') := by
  apply calls19
  unfold S19
  refine callW_of (read_calls h k) ?_
  rintro _ w1 ⟨rfl, he1⟩
  refine ⟨((d.read k).1, (d.read k).2, ()), rfl, ?_⟩
  have hsz := read_size h.ok k
  generalize (d.read k).1 = x at *
  refine callW_of (rsget_calls w1 x (by omega)) ?_
  rintro _ w2 ⟨y, rfl, hpg, he2, _⟩
  refine ⟨(sT (getS (B x)).1 y, (getS (B x)).2, ()), rfl, ?_⟩
  refine new_i fun r3 w3 hb3 he3 hr3 _ => ?_
  refine refill (vs := sV (getS (B x)).1 y) hb3 (by rfl) (sV_one _ y) (by rfl) fun w4 hb4 hx4 hk4 hz4 => ?_
  have hx : Ext w w4 := hx4 w ((he1.trans he2).trans he3) (by have := (he1.trans he2).size; omega)
  unfold chanceF
  dsimp only
  rw [str_beq]
  refine splitW_i (fun hq => ?_) (fun hq => ?_)
  · rw [hq]; exact ⟨rfl, hx⟩
  rw [hq]
  refine splitW_i (fun he => ?_) (fun he => ?_)
  · rw [decide_eq_false (bne_iff_ne.1 he)]; exact ⟨rfl, hx⟩
  rw [decide_eq_true (bne_eq_false_iff_eq.1 he)]
  rw [Bool.not_false, Bool.true_and, Bool.true_and]
  have hl := hp.len
  have hle := hp.le
  refine loopW_i (fun z w' => ∃ i : Nat, i ≤ n ∧ z = ((i : Int), ()) ∧ w' = w4 ∧ ∀ j, j < i → B (pen.getD j w00).2 ≠ B x) (fun z => (n - z.1).toNat) ⟨0, by omega, rfl, rfl, fun j hj => by omega⟩ ?_
  rintro _ w5 ⟨i, hi, rfl, rfl, hall⟩
  dsimp only
  by_cases hlt : i < n
  · refine splitW_t (decide_eq_true (by omega)) ?_
    refine idx_f (E := writeE) (l := .str) 1 (fun q : Int × ByteArray => q.2) w00 (hp.ext hx) (fun _ => rfl) rfl (by omega) (by omega) ?_
    rw [Int.toNat_natCast, str_beq]
    refine splitW_i (fun he2 => ?_) (fun he2 => ?_)
    · refine ⟨?_, hx⟩
      congr 1
      symm
      rw [List.all_eq_false]
      refine ⟨pen.getD i w00, ?_, by rw [he2]; simp⟩
      rw [List.getD_eq_getElem?_getD, List.getElem?_eq_getElem (by omega)]
      exact List.getElem_mem _
    · have he2 := of_decide_eq_false he2
      refine ⟨⟨i + 1, by omega, by rw [wrap_i64 (by omega) (by omega)]; rfl, rfl, fun j hj => ?_⟩, by rw [wrap_i64 (by omega) (by omega)]; omega⟩
      by_cases e : j = i
      · subst e; exact he2
      · exact hall j (by omega)
  · refine splitW_f (decide_eq_false (by omega)) ⟨?_, hx⟩
    congr 1
    symm
    rw [List.all_eq_true]
    intro q hqm
    obtain ⟨j, hj, rfl⟩ := List.mem_iff_getElem.1 hqm
    have := hall j (by omega)
    rw [List.getD_eq_getElem?_getD, List.getElem?_eq_getElem hj] at this
    have this : B pen[j].2 ≠ B x := this
    rw [decide_eq_false this]
    rfl
theorem pick_flat (l : List (Int × Nat)) (i : Nat) (hi : i < l.length) (v : Int) : (pickE.flat l).set (i * 2) (.int .i64 v) = pickE.flat (l.set i (v, (l.getD i (0, 0)).2)) ∧ ∀ m : Nat, (pickE.flat l).set (i * 2 + 1) (.int .u64 (m : Int)) = pickE.flat (l.set i ((l.getD i (0, 0)).1, m)) := by
  induction l generalizing i with
  | nil => simp at hi
  | cons a r ih =>
    cases i with
    | zero => exact ⟨rfl, fun m => rfl⟩
    | succ i =>
      obtain ⟨h1, h2⟩ := ih i (by simpa using hi)
      have e : pickE.flat (a :: r) = .int .i64 a.1 :: .int .u64 (a.2 : Int) :: pickE.flat r := rfl
      have e2 : ∀ (q : Int × Nat) (t : List (Int × Nat)), pickE.flat (q :: t) = .int .i64 q.1 :: .int .u64 (q.2 : Int) :: pickE.flat t := fun _ _ => rfl
      refine ⟨?_, fun m => ?_⟩
      · rw [e, show (i + 1) * 2 = i * 2 + 1 + 1 by omega, List.set_cons_succ, List.set_cons_succ, h1, List.set_cons_succ, e2]
        rfl
      · rw [e, show (i + 1) * 2 + 1 = i * 2 + 1 + 1 + 1 by omega, List.set_cons_succ, List.set_cons_succ, h2, List.set_cons_succ, e2]
        rfl
theorem elem_pick : ElemK Tryz.prog 25 56 (.agg #[.int .i64 0, .int .u64 0]) pickE.k 16 := ⟨by kernel_rfl, by kernel_rfl, by kernel_rfl⟩
theorem ownpick_calls {w : World} {A : Option Addr} {n c : Nat} {l : List (Int × Nat)} (h : Sli pickE w A n l) (hn : n ≤ 1000000) :
    Calls Tryz.prog 17 #[.slice A n c] w (Ret fun v w' => ∃ x : SLC, v = .slice x.1 x.2.1 x.2.2 ∧ Owni pickE 56 w' w.heap.size x.1 x.2.1 x.2.2 l ∧ Ext w w') := by
  apply calls17
  unfold S17
  apply newW_i
  have ho : Owni pickE 56 (w.alloc (.cells #[] 56)) w.heap.size (some ⟨w.heap.size, 0, none⟩) 0 0 [] := Owni.lit (E := pickE) (xs := []) rfl (Nat.le_refl _) (by omega)
  have he : Ext w (w.alloc (.cells #[] 56)) := (Ext.refl w).alloc _
  refine append_sli (c := 0) (n := 0) (m := n) elem_pick ho he.size (h.ext he) (by omega) (by omega) ?_
  intro A' c' w' ho' hg _
  rw [List.nil_append, Nat.zero_add] at ho'
  rw [Nat.zero_add]
  exact ⟨(A', n, c'), rfl, ho', he.grown hg.grown (fun j hj => ho.row j hj)⟩
theorem pick12 {n : Int} (h : I64 n) : 0 ≤ pick n 12 ∧ pick n 12 < 12 := pick_lt (by omega)
theorem Owni.row0 {α : Type} {E : Enc α} {e : TypeId} {w : World} {B : Nat} {A : Option Addr} {n c : Nat} {xs : List α} (h : Owni E e w B A n c xs) (hn : 0 < n) : ∃ g, A = some ⟨g, 0, none⟩ ∧ B ≤ g := by
  rcases h.2 with ⟨h1, h2⟩ | ⟨g, cap, cur, hv, hb, _⟩
  · omega
  · injection hv with hv1; exact ⟨g, hv1, hb⟩
theorem sp_fuse {w : World} {b db : Nat} {S : Spa} {F : Nat → Prop} (h : SpAt w b db S F) {n : Int} (h0 : 0 ≤ n) (hn : n < 9223372036854775808) :
    Calls Tryz.prog 13 #[.pointer (some ⟨db, 0, none⟩), .int .i64 n] w (Ret fun v w' => v = .tuple #[] ∧ StepS w b db F { S with dev := { S.dev with fuse := n } } w') := by
  obtain ⟨Fd, x, hb, hr, nb, nr, m, h⟩ := h
  refine (fuse_calls h.dev hn).mono (Ret.mono ?_)
  rintro v w' ⟨rfl, hst⟩
  rw [show max (-1) n = n by omega] at hst
  obtain ⟨F', Fd', h1, h2, h3⟩ := h.setDev hst ⟨rfl, rfl⟩
  exact ⟨rfl, F', h1.toAt, h2, h3⟩
theorem sp_commitF {w : World} {b db : Nat} {S S1 : Spa} {F : Nat → Prop} {R H : List Nat} {M : Option (List Nat)} (h : SpAt w b db S1 F) (hg : Great S R H M) {k : Int} (hS1 : S1 = { S with dev := { S.dev with fuse := k } }) {root : Nat} (hr : root < 4294967296) (hpen : S.dev.pen.length ≤ 900000) :
    Calls Tryz.prog 15 #[.pointer (some ⟨b, 0, none⟩), .int .u32 (root : Int)] w (Ret fun v w' => v = .int .i64 (S1.commit root).2 ∧ StepS w b db F (S1.commit root).1 w') := by
  obtain ⟨Fd, x, hb, hr', nb, nr, m, h⟩ := h
  have hP := hg.heldOK.pgsOk hg.good
  subst hS1
  exact commitS_calls h hg.good.h01 ⟨hP.at_, hP.nodup, hP.len⟩ (by have := hg.good.gen; show S.sup.gen + 1 < _; omega) hpen hr
theorem commitD_pen (d : Dev) (c : List Nat) (s : Sup) (slot : Int) : (commitD d c s slot).1.pen.length ≤ d.pen.length + s.pages.length + 1 := by
  have hL : (pgFs s.gen s.pages (pagesL c (perOf d.size))).length ≤ s.pages.length := by
    unfold pgFs
    rw [List.length_map, List.length_zip]
    omega
  obtain ⟨_, _, w3⟩ := wrL_dim (pgFs s.gen s.pages (pagesL c (perOf d.size))) d
  unfold commitD
  generalize wrL d (pgFs s.gen s.pages (pagesL c (perOf d.size))) = r at *
  obtain ⟨_, _, f3⟩ := flush_dim r.1
  split
  · omega
  split
  · omega
  split
  · show r.1.flush.1.pen.length ≤ _
    omega
  obtain ⟨_, _, q3⟩ := write_dim r.1.flush.1 slot (mkB (putS s).1)
  split
  · omega
  obtain ⟨_, _, y3⟩ := flush_dim (r.1.flush.1.write slot (mkB (putS s).1)).1
  omega
theorem commitS_pen (S : Spa) (root : Nat) : (S.commit root).1.dev.pen.length ≤ S.dev.pen.length + S.sup.pages.length + 1 := by
  have h := commitD_pen S.dev S.comC (S.next root) (other S.slot)
  have hns : (S.next root).pages.length ≤ S.sup.pages.length := by
    show S.ns.length ≤ _
    unfold Spa.ns
    rw [List.length_take]
    omega
  have hD : (S.comD root).1.pen.length ≤ S.dev.pen.length + S.sup.pages.length + 1 := by
    show (commitD S.dev S.comC (S.next root) (other S.slot)).1.pen.length ≤ _
    omega
  unfold Spa.commit
  split
  · show S.dev.pen.length ≤ _
    omega
  · split
    · exact hD
    · exact hD
theorem used_commit {S : Spa} {R H : List Nat} {M : Option (List Nat)} (hg : Great S R H M) {root : Nat} (hroot : root = 0 ∨ usedC S.sup.pages S.now root = true) (hgen : S.sup.gen + 1 < 1000000000000) (hfit : ∀ n, S.now.getD n 0 < 65536) {k : Nat} (hk : usedC S.sup.pages S.now k = true) : usedC (S.commit root).1.sup.pages (S.commit root).1.now k = true := by
  obtain ⟨c1, _⟩ := great_commit hg hroot hgen hfit
  rw [c1]
  show usedC S.ns S.comC k = true
  obtain ⟨a1, a2, a3⟩ := usedC_iff.1 hk
  have hn : k ∉ S.ns := fun e => by have := (isFree_iff.1 (ns_free e).2.2).1; omega
  refine usedC_iff.2 ⟨a1, hn, ?_⟩
  rw [comC_get hg.good.ok.now (hg.heldOK.pgsOk hg.good), if_neg a2, if_neg hn]
  exact a3
end Go.Proofs.YtjdmggaeagnolaaGreatDoor.V
/- Law 13: SpaceCrash, as a contract. -/
namespace Go.Proofs.YtjdmggaeagnolaaGreatDoor.V
open Go Go.Proofs Go.RowKit Crc
theorem get_used {S : Spa} {R : List Nat} (h : Good S R) {n : Nat} (hn : usedC S.sup.pages S.now n = true) : S.get n = S.page n := (h.get hn).1
theorem tell_eq {S Z : Spa} {R RZ : List Nat} (hS : Good S R) (hZ : Good Z RZ) {U : Nat → Prop} (hU : ∀ n, U n → usedC S.sup.pages S.now n = true ∧ usedC Z.sup.pages Z.now n = true ∧ Z.page n = S.page n) (hk : ∀ n, U n → ∀ k ∈ kidsP S.page n, U k) (d n : Nat) (hn : U n) : tellF Z.get d n = tellF S.get d n := by
  refine (tell_same (U := U) (fun m hm => ?_) d n hn).symm
  obtain ⟨h1, h2, h3⟩ := hU m hm
  rw [get_used hS h1, get_used hZ h2, h3]
  exact ⟨rfl, fun k hkm => hk m hm k hkm⟩
theorem crash_law {w : World} (hT : DeB w) {size blocks : Int} {A : Option Addr} {n c : Nat} {acts : List ActV} (ha : Sli actE w A n acts) (hq : ∀ a ∈ acts, actQ a) {fz : Int} (hfz : I64 fz) {A3 : Option Addr} {n3 c3 : Nat} {picks : List (Int × Nat)} (hp : Sli pickE w A3 n3 picks) (hpq : ∀ p ∈ picks, I64 p.1 ∧ p.2 < 18446744073709551616) :
    Calls Tryz.prog 3 #[.agg #[.int .i64 size, .int .i64 blocks], .slice A n c, .int .i64 fz, .slice A3 n3 c3] w (Ret fun v w' => v = .bool true ∧ Ext w w') := by
  apply calls3
  unfold S3
  have hal := ha.len
  have hpl3 := hp.len
  refine new_i fun r1 w1 hb1 he1 hr1 hz1 => ?_
  refine callW_of (lives_calls w1) ?_
  rintro _ w2 ⟨rfl, he2⟩
  refine ⟨_, rfl, splitW_f (by rfl) ?_⟩
  have hb2 := hb1.ext he2
  have he02 := he1.trans he2
  refine boxA (ls := [.int .i64, .int .i64]) (size, blocks, ()) hb2 rfl ?_
  refine callW_of (lightgeo_calls w2 size blocks) ?_
  rintro _ w3 ⟨rfl, he3⟩
  refine ⟨_, rfl, ?_⟩
  have he03 := he02.trans he3
  refine splitW_i (fun _ => ⟨rfl, he03⟩) (fun hlg => ?_)
  refine callW_of (light_calls (ha.ext he03)) ?_
  rintro v w4 ⟨hv, hw4⟩
  obtain ⟨q, rfl, hql⟩ : ∃ q : Bool, v = .bool q ∧ (q = true → n ≤ 60 ∧ ∀ a ∈ acts, a.2.2.2.2.size ≤ 600) := by
    rcases hv with ⟨e, h1, h2⟩ | e
    · exact ⟨true, e, fun _ => ⟨h1, h2⟩⟩
    · exact ⟨false, e, fun h => by cases h⟩
  refine ⟨q, rfl, ?_⟩
  rw [hw4]
  refine splitW_i (fun _ => ⟨rfl, he03⟩) (fun hqt => ?_)
  have hqt : q = true := by cases q <;> simp_all
  obtain ⟨hn60, h600⟩ := hql hqt
  refine splitW_i (fun _ => ⟨rfl, he03⟩) (fun hp40 => ?_)
  have hp40 := of_decide_eq_false hp40
  have hb3 := hb2.ext he3
  refine boxA (ls := [.int .i64, .int .i64]) (size, blocks, ()) hb3 rfl ?_
  refine callW_of (begin_calls w3 size blocks) ?_
  rintro v w5 hv
  obtain ⟨pp, rfl, he5, hpp⟩ : ∃ p : Option Addr, v = .pointer p ∧ Ext w3 w5 ∧ (p = none ∨ (geoOK size blocks = true ∧ chk (fmtS size blocks.toNat) = 0 ∧ ∃ r db b F, p = some ⟨r, 0, none⟩ ∧ RunX w3 w5 r db b (formatS (dev0 size blocks)) F (none, 0, 0) (none, 0, 0) (none, 0, 0) [] [] [] false 0)) := by
    rcases hv with ⟨e, he⟩ | ⟨h1, h2, r, db, b, F, e, hR⟩
    · exact ⟨none, e, he, .inl rfl⟩
    · exact ⟨_, e, hR.x, .inr ⟨h1, h2, r, db, b, F, rfl, hR⟩⟩
  refine ⟨pp, rfl, ?_⟩
  rcases hpp with rfl | ⟨hgeo, hchk, r, db, b, F, rfl, hR⟩
  · exact splitW_t (by rfl) ⟨rfl, he03.trans he5⟩
  refine splitW_f (by rfl) ?_
  obtain ⟨N, rfl⟩ := nat_of_geo hgeo
  rw [Int.toNat_natCast] at hchk
  have hlb := light_bounds (by simpa using hlg) hgeo
  have hI0 := Inv.format hgeo hchk
  have ha3 := ha.ext he03
  refine acts_loop ha3 hq h600 hn60 (by omega) ⟨b, _, F, _, _, _, [], [], [], false, 0, hR, hI0⟩ ?_
  rintro w7 ⟨b7, S, F7, xo, xh, xm, own, held, mark, mk, root, h7, hI⟩
  have hNN := hI.n
  have hdim := hI.gr.good.dims
  have hgen := hI.gen
  have hpl := hI.pl
  have hgr := hI.gr
  have hrt := hI.rt
  have hS512 : S.dev.size ≤ 512 := by have := hI.sz; have := hgr.good.ok.size; omega
  have hend : ∀ {w' : World}, Ext w3 w' → Ext w w' := fun h => he03.trans h
  refine draw_i fun w8 he8 _ _ => ?_
  have h8 := h7.ext he8
  refine ptr_i (boxE (l := .ptr) 1 (some ⟨b7, 0, none⟩) h8.box (by rfl) (by rfl) ?_)
  refine ptr_i (boxE (l := .int .u32) 6 (root : Int) h8.box (by rfl) (by rfl) ?_)
  refine callW_of (gen_at h8.sp) ?_
  rintro _ w9 ⟨rfl, hw9⟩
  refine ⟨_, rfl, ?_⟩
  rw [hw9]
  refine h1_i (held1F h8.box (by rfl)) ?_
  -- what was told of what was committed last
  have hab := great_abort hgr
  refine joinW_s (fun y w' => Ext w8 w' ∧ (root ≠ 0 → y.1 = mkB (tellF (Spa.get { S with now := S.held, mark := none }) 6 root))) ?_ (fun J18 hJ18 => ?_)
  rotate_left
  · refine splitW_i (fun hne => ?_) (fun he => ?_)
    rotate_left
    · exact hJ18 _ _ ⟨Ext.refl _, fun h => absurd (by have := bne_eq_false_iff_eq.1 he; omega) h⟩
    have hr0 : root ≠ 0 := by have := bne_iff_ne.1 hne; omega
    refine ptr_i (box0 (l := .ptr) (some ⟨db, 0, none⟩) h8.box (by rfl) ?_)
    refine callW_of (sp_open h8.sp hgr) ?_
    rintro _ w10 ⟨b10, F10, rfl, h10, he10, _, _⟩
    refine ⟨(some ⟨b10, 0, none⟩, 0, ()), rfl, splitW_f (by rfl) ?_⟩
    have hr32 : root < 4294967296 := by
      have := hgr.hwell.lt (hrt.2.resolve_left hr0)
      have := hdim.n
      omega
    refine callW_of (tell_calls (S := { S with now := S.held, mark := none }) hS512 6 root w10 (by omega) hr32 h10) ?_
    rintro _ w11 ⟨rfl, he11⟩
    exact ⟨_, rfl, hJ18 _ _ ⟨he10.trans he11, fun _ => rfl⟩⟩
  rintro ⟨old, _⟩ w12 ⟨he12, hold⟩
  dsimp only at hold ⊢
  have h12 := h8.ext he12
  have hol := h12.ro.sl.len
  have hlo := hI.lo
  -- what is told of what is to be committed
  refine joinW_s (fun y w' => ∃ nx : Nat, y = ((nx : Int), y.2.1, ()) ∧ Ext w12 w' ∧ (nx = 0 ∨ nx ∈ own) ∧ (nx ≠ 0 → y.2.1 = mkB (tellF S.get 6 nx))) ?_ (fun J24 hJ24 => ?_)
  rotate_left
  · refine ptr_i (boxE (l := .slc) 2 xo h12.box (by rfl) (by rfl) ?_)
    refine splitW_i (fun hpos => ?_) (fun _ => hJ24 _ _ ⟨0, rfl, Ext.refl _, .inl rfl, fun h => absurd rfl h⟩)
    have hpos := of_decide_eq_true hpos
    refine draw_i fun w13 he13 _ _ => ?_
    have h13 := h12.ext he13
    refine ptr_i (boxE (l := .slc) 2 xo h13.box (by rfl) (by rfl) ?_)
    refine ptr_i (boxE (l := .slc) 2 xo h13.box (by rfl) (by rfl) ?_)
    have wl : IntKind.wrap .i64 (((xo.2.1 : Nat) : Int) - 1) = ((own.length - 1 : Nat) : Int) := by rw [wrap_i64 (by omega) (by omega)]; omega
    rw [wl]
    refine idx_num h13.ro.sl (by omega) (by omega) ?_
    rw [Int.toNat_natCast]
    have hmem : own.getD (own.length - 1) 0 ∈ own := by rw [List.getD_eq_getElem?_getD, List.getElem?_eq_getElem (by omega)]; exact List.getElem_mem _
    have h32 : own.getD (own.length - 1) 0 < 4294967296 := by
      have := hgr.good.well.lt (hgr.good.well.root _ hmem)
      have := hdim.n
      omega
    refine ptr_i (boxE (l := .ptr) 1 (some ⟨b7, 0, none⟩) h13.box (by rfl) (by rfl) ?_)
    refine callW_of (tell_calls hS512 6 _ w13 (by omega) h32 h13.sp) ?_
    rintro _ w14 ⟨rfl, he14⟩
    exact ⟨_, rfl, hJ24 _ _ ⟨_, rfl, he13.trans he14, .inr hmem, fun _ => rfl⟩⟩
  rintro ⟨_, now, _⟩ w15 ⟨nx, hy, he15, hnx, hnow⟩
  injection hy with hy1 hy2
  dsimp only at hy1 hnow ⊢
  subst hy1
  have h15 := h12.ext he15
  have hused : nx = 0 ∨ usedC S.sup.pages S.now nx = true := hnx.imp id (fun e => hgr.good.well.root _ e)
  have hnx32 : nx < 4294967296 := by
    have := hdim.n
    rcases hused with e | e
    · omega
    · have := hgr.good.well.lt e; omega
  -- both blocks
  refine ptr_i (box0 (l := .ptr) (some ⟨db, 0, none⟩) h15.box (by rfl) ?_)
  obtain ⟨Fd15, hD15, _⟩ := sp_dev h15.sp
  refine callW_of (read_calls hD15 0) ?_
  rintro _ w16 ⟨rfl, he16⟩
  refine ⟨((S.dev.read 0).1, (S.dev.read 0).2, ()), rfl, ?_⟩
  have h16 := h15.ext he16
  refine ptr_i (box0 (l := .ptr) (some ⟨db, 0, none⟩) h16.box (by rfl) ?_)
  obtain ⟨Fd16, hD16, _⟩ := sp_dev h16.sp
  refine callW_of (read_calls hD16 1) ?_
  rintro _ w17 ⟨rfl, he17⟩
  refine ⟨((S.dev.read 1).1, (S.dev.read 1).2, ()), rfl, ?_⟩
  dsimp only
  refine draw_i fun w18 he18 _ _ => ?_
  have h18 := (h16.ext he17).ext he18
  refine ptr_i (box0 (l := .ptr) (some ⟨db, 0, none⟩) h18.box (by rfl) ?_)
  refine callW_of (pick_calls w18 hfz.1 hfz.2 (by omega)) ?_
  rintro _ w19 ⟨rfl, hw19⟩
  refine ⟨_, rfl, ?_⟩
  rw [hw19]
  refine h1_i (held1Z h18.box (by rfl)) ?_
  have hpk := pick12 hfz
  refine callW_of (sp_fuse h18.sp (n := pick fz 12) hpk.1 (by omega)) ?_
  rintro _ w20 ⟨rfl, hst20⟩
  refine ⟨(), rfl, ?_⟩
  obtain ⟨F20, h20⟩ := h18.step hst20
  generalize hS1 : ({ S with dev := { S.dev with fuse := pick fz 12 } } : Spa) = S1 at h20
  refine ptr_i (boxE (l := .ptr) 1 (some ⟨b7, 0, none⟩) h20.box (by rfl) (by rfl) ?_)
  refine callW_of (sp_commitF h20.sp hgr hS1.symm hnx32 (by omega)) ?_
  rintro _ w21 ⟨rfl, hst21⟩
  refine ⟨_, rfl, ?_⟩
  obtain ⟨F21, h21⟩ := h20.step hst21
  have hfit := sp_fit h8.sp
  have hmain := fun (l : List (Int × Nat)) (hl : (S1.commit nx).1.dev.pickOK l) => crash_main hgr hI.pw hused (by omega) hfit hpk.1 (by omega) hS1.symm hl
  have hpen2 : (S1.commit nx).1.dev.pen.length ≤ 900000 := by
    have hE : S1.dev.pen.length ≤ 60 := by rw [← hS1]; show S.dev.pen.length ≤ 60; omega
    have hdl := (commitS_pen S1 nx)
    have hpg : S1.sup.pages.length ≤ 4096 := by
      rw [← hS1]
      show S.sup.pages.length ≤ 4096
      have := freeN_le S
      have := hgr.room
      omega
    omega
  have hgenE : S.sup.gen + 1 < 18446744073709551616 := by omega
  refine ptr_i (box0 (l := .ptr) (some ⟨db, 0, none⟩) h21.box (by rfl) ?_)
  obtain ⟨Fd21, hD21, hFd21⟩ := sp_dev h21.sp
  refine callW_of (pending_calls hD21 (by omega)) ?_
  rintro _ w22 ⟨Aw, cw, rfl, how, he22⟩
  refine ⟨(Aw, (S1.commit nx).1.dev.pen.length, cw), rfl, ?_⟩
  have h22 := h21.ext he22
  have hp22 := (hp.ext he03).ext h22.x
  refine callW_of (ownpick_calls hp22 (by omega)) ?_
  rintro _ w23 ⟨xp, rfl, hop, he23⟩
  refine ⟨xp, rfl, ?_⟩
  dsimp only
  have h23 := h22.ext he23
  have how23 := how.ext he23
  have hb23 := hb3.ext h23.x
  generalize hd2 : (S1.commit nx).1.dev = d2 at *
  have hopl := hop.len
  have hFlt : ∀ k, F21 k → k < w22.heap.size := h22.sp.lt
  have hrlt := h22.box.lt
  -- the picks, made fit
  refine loopW_i (fun y w' => ∃ (i : Nat) (l : List (Int × Nat)), i ≤ xp.2.1 ∧ y = ((i : Int), ()) ∧ l.length = xp.2.1 ∧ Owni pickE 56 w' w22.heap.size xp.1 xp.2.1 xp.2.2 l ∧ (∀ p ∈ l, I64 p.1 ∧ p.2 < 18446744073709551616) ∧ Ext w22 w') (fun y => (xp.2.1 - y.1).toNat)
    ⟨0, picks, by omega, rfl, hopl, hop, hpq, he23⟩ ?_
  rintro _ w24 ⟨i, l, hi, rfl, hll, hol, hlq, hx24⟩
  dsimp only
  have h24 := h22.ext hx24
  by_cases hlt : i < xp.2.1
  · refine splitW_t (decide_eq_true (by omega)) ?_
    refine draw_i fun w25 he25 _ _ => ?_
    have h25 := h24.ext he25
    have hol25 := hol.ext he25
    obtain ⟨g, hg, hgB⟩ := hol25.row0 (by omega)
    have hcell : ∀ j : Nat, j < l.length * 2 → w25.cell? ⟨g, j, none⟩ = (pickE.flat l)[j]? := fun j hj => by
      have := hol25
      unfold Owni at this
      rw [hg] at this
      exact World.ownsRow.cellAt this j (by rw [← hll]; exact hj)
    have hli : l[i]? = some (l.getD i (0, 0)) := by rw [List.getD_eq_getElem?_getD, List.getElem?_eq_getElem (by omega)]; rfl
    have hc0 : w25.cell? ⟨g, i * 2, none⟩ = some (.int .i64 (l.getD i (0, 0)).1) := by
      rw [hcell _ (by omega)]
      have := pickE.flat_get l i 0 (by decide)
      rw [Nat.add_zero] at this
      rw [show i * 2 = i * pickE.k from rfl, this, hli]
      rfl
    have ea : ∀ j : Nat, (⟨g, 0, none⟩ : Addr).add (Int.toNat ((i : Nat) : Int) * 2) = ⟨g, i * 2, none⟩ := fun _ => by rw [add_mk, Int.toNat_natCast, Nat.zero_add]
    refine guard_i (by omega) ⟨⟨g, 0, none⟩, hg, ?_⟩
    dsimp only
    rw [ea 0]
    refine ⟨(l.getD i (0, 0)).1, hc0, ?_⟩
    refine ptr_i (box0 (l := .ptr) (some ⟨db, 0, none⟩) h25.box (by rfl) ?_)
    obtain ⟨Fd25, hD25, _⟩ := sp_dev h25.sp
    rw [hd2] at hD25
    refine callW_of (pending_calls hD25 (by omega)) ?_
    rintro _ w26 ⟨A26, c26, rfl, ho26, he26⟩
    refine ⟨(A26, d2.pen.length, c26), rfl, ?_⟩
    refine h1_i (fun q hq => by rw [List.mem_singleton.1 hq]; exact he26.cell hc0) ?_
    have hpin : I64 (l.getD i (0, 0)).1 := (hlq _ (List.mem_of_getElem? hli)).1
    refine callW_of (pick_calls w26 hpin.1 hpin.2 (by dsimp only; omega)) ?_
    rintro _ w27 ⟨rfl, hw27⟩
    refine ⟨_, rfl, ?_⟩
    rw [hw27]
    have hol26 := hol25.ext he26
    refine guard_i (by omega) ⟨⟨g, 0, none⟩, hg, ?_⟩
    dsimp only
    rw [ea 0]
    have hst1 := hol26
    unfold Owni at hst1
    rw [hg] at hst1
    have s1 := World.ownsRow.stored hst1 (i * 2) (.int .i64 (pick (l.getD i (0, 0)).1 ((d2.pen.length : Nat) : Int)))
    refine ⟨⟨_, he26.cell hc0⟩, World.ownsRow.frozenAt hst1 _, ?_⟩
    rw [(pick_flat l i (by omega) _).1] at s1
    generalize hw28 : w26.setCell ⟨g, i * 2, none⟩ (.int .i64 (pick (l.getD i (0, 0)).1 ((d2.pen.length : Nat) : Int))) = w28 at s1
    have hx28 : Ext w22 w28 := ((hx24.trans he25).trans he26).grown s1.2 (fun j hj => by injection hj with hj; omega)
    generalize hl1 : l.set i (pick (l.getD i (0, 0)).1 ((d2.pen.length : Nat) : Int), (l.getD i (0, 0)).2) = l1 at s1
    have hl1l : l1.length = xp.2.1 := by rw [← hl1, List.length_set, hll]
    have hol28 : Owni pickE 56 w28 w22.heap.size xp.1 xp.2.1 xp.2.2 l1 := by unfold Owni; rw [hg]; exact s1.1
    refine draw_i fun w29 he29 _ _ => ?_
    have hol29 := hol28.ext he29
    have hcell9 : w29.cell? ⟨g, i * 2 + 1, none⟩ = some (.int .u64 (((l1.getD i (0, 0)).2 : Nat) : Int)) := by
      have := hol29
      unfold Owni at this
      rw [hg] at this
      rw [World.ownsRow.cellAt this (i * 2 + 1) (by show i * 2 + 1 < xp.2.1 * 2; omega)]
      have h2 := pickE.flat_get l1 i 1 (by decide)
      have hl1i : l1[i]? = some (l1.getD i (0, 0)) := by rw [List.getD_eq_getElem?_getD, List.getElem?_eq_getElem (by omega)]; rfl
      rw [show i * 2 + 1 = i * pickE.k + 1 from rfl, h2, hl1i]
      rfl
    have hpkr : I64 (pick (l.getD i (0, 0)).1 ((d2.pen.length : Nat) : Int)) := by
      unfold pick
      split
      · exact ⟨by omega, by omega⟩
      · have h1 := Int.emod_nonneg (l.getD i (0, 0)).1 (show ((d2.pen.length : Nat) : Int) ≠ 0 by omega)
        have h2 := Int.emod_lt_of_pos (l.getD i (0, 0)).1 (show (0 : Int) < ((d2.pen.length : Nat) : Int) by omega)
        exact ⟨by omega, by omega⟩
    have hl1q : ∀ p ∈ l1, I64 p.1 ∧ p.2 < 18446744073709551616 := by
      intro p hpm
      rw [← hl1] at hpm
      rcases List.mem_or_eq_of_mem_set hpm with e | e
      · exact hlq p e
      · rw [e]; exact ⟨hpkr, (hlq _ (List.mem_of_getElem? hli)).2⟩
    refine guard_i (by omega) ⟨⟨g, 0, none⟩, hg, ?_⟩
    dsimp only
    rw [ea 0, add_mk]
    refine ⟨(((l1.getD i (0, 0)).2 : Nat) : Int), hcell9, ?_⟩
    refine box0 (l := .int .i64) size ((hb3.ext h22.x).ext (hx28.trans he29)) (by rfl) ?_
    refine guard_i (by rw [wrap_u64]; exact Int.emod_nonneg _ (by omega)) ?_
    refine guard_i (by omega) ⟨⟨g, 0, none⟩, hg, ?_⟩
    dsimp only
    rw [ea 0, add_mk]
    have hst2 := hol29
    unfold Owni at hst2
    rw [hg] at hst2
    obtain ⟨mm, hmm, hmlt⟩ : ∃ m : Nat, iand .u64 (((l1.getD i (0, 0)).2 : Nat) : Int) (IntKind.wrap .u64 (ishl .u64 1 (IntKind.wrap .u64 (IntKind.wrap .i64 (Int.tdiv size 64))) - 1)) = (m : Int) ∧ m < 18446744073709551616 := by
      unfold iand
      rw [wrap_u64]
      have h0 := Int.emod_nonneg ((((BitVec.ofInt IntKind.u64.bits (((l1.getD i (0, 0)).2 : Nat) : Int) &&& BitVec.ofInt IntKind.u64.bits (IntKind.wrap .u64 (ishl .u64 1 (IntKind.wrap .u64 (IntKind.wrap .i64 (Int.tdiv size 64))) - 1))).toNat : Nat)) : Int) (show (18446744073709551616 : Int) ≠ 0 by omega)
      have h1 := Int.emod_lt_of_pos ((((BitVec.ofInt IntKind.u64.bits (((l1.getD i (0, 0)).2 : Nat) : Int) &&& BitVec.ofInt IntKind.u64.bits (IntKind.wrap .u64 (ishl .u64 1 (IntKind.wrap .u64 (IntKind.wrap .i64 (Int.tdiv size 64))) - 1))).toNat : Nat)) : Int) (show (0 : Int) < 18446744073709551616 by omega)
      exact ⟨_, (Int.toNat_of_nonneg h0).symm, by omega⟩
    rw [hmm]
    have s2 := World.ownsRow.stored hst2 (i * 2 + 1) (.int .u64 (mm : Int))
    refine ⟨⟨_, hcell9⟩, World.ownsRow.frozenAt hst2 _, ?_⟩
    rw [(pick_flat l1 i (by omega) 0).2 mm] at s2
    generalize w29.setCell ⟨g, i * 2 + 1, none⟩ (.int .u64 (mm : Int)) = w30 at s2 ⊢
    have hx30 : Ext w22 w30 := (hx28.trans he29).grown s2.2 (fun j hj => by injection hj with hj; omega)
    refine ⟨⟨i + 1, l1.set i ((l1.getD i (0, 0)).1, mm), by omega, by rw [wrap_i64 (by omega) (by omega)]; rfl, by rw [List.length_set, hl1l], by unfold Owni; rw [hg]; exact s2.1, fun p hpm => ?_, hx30⟩, by rw [wrap_i64 (by omega) (by omega)]; omega⟩
    rcases List.mem_or_eq_of_mem_set hpm with e | e
    · exact hl1q p e
    · rw [e]
      have hl1i : l1[i]? = some (l1.getD i (0, 0)) := by rw [List.getD_eq_getElem?_getD, List.getElem?_eq_getElem (by omega)]; rfl
      exact ⟨(hl1q _ (List.mem_of_getElem? hl1i)).1, hmlt⟩
  obtain rfl : i = xp.2.1 := by omega
  refine splitW_f (decide_eq_false (by omega)) ?_
  -- the crash
  refine ptr_i (box0 (l := .ptr) (some ⟨db, 0, none⟩) h24.box (by rfl) ?_)
  obtain ⟨Fd24, hD24, _⟩ := sp_dev h24.sp
  rw [hd2] at hD24
  have hT24 : DeB w24 := hT.ext (hend h24.x)
  refine callW_of (crash_calls hD24 hol.sl (fun p hpm => (hlq p hpm).2) (by omega) (by omega) hT24) ?_
  rintro _ w25 (⟨hpk2, db2, rfl, Fc, hDc, hFc, he25⟩ | ⟨_, rfl, he25⟩)
  rotate_left
  · exact ⟨(none, 2, ()), rfl, splitW_t (by rfl) ⟨rfl, hend (h24.x.trans he25)⟩⟩
  refine ⟨(some ⟨db2, 0, none⟩, 0, ()), rfl, splitW_f (by rfl) ?_⟩
  dsimp only
  have hx25 := hend (h24.x.trans he25)
  have how25 := (how.ext hx24).ext he25
  have hmain := hmain l hpk2
  generalize hdc : d2.crashed l = dc at *
  -- by chance
  refine joinW_s (fun _ w' => Ext w25 w' ∧ ¬ ((S1.commit nx).2 ≠ 0 ∧ ((dc.read (other S.slot)).1 ≠ (S.dev.read (other S.slot)).1 ∧ (∀ p ∈ d2.pen, p.2 ≠ (dc.read (other S.slot)).1) ∧ (getS (B (dc.read (other S.slot)).1)).2 = 0))) ?_ (fun J70 hJ70 => ?_)
  rotate_left
  · refine splitW_i (fun hne => ?_) (fun hee => hJ70 _ _ ⟨Ext.refl _, fun h => h.1 (bne_eq_false_iff_eq.1 hee)⟩)
    have no : ∀ {k : Int}, chanceF (dc.read k).1 (S.dev.read k).1 d2.pen = false → k = other S.slot → ¬ ((S1.commit nx).2 ≠ 0 ∧ ((dc.read (other S.slot)).1 ≠ (S.dev.read (other S.slot)).1 ∧ (∀ p ∈ d2.pen, p.2 ≠ (dc.read (other S.slot)).1) ∧ (getS (B (dc.read (other S.slot)).1)).2 = 0)) := by
      rintro k hc rfl ⟨_, h1, h2, h3⟩
      have : chanceF (dc.read (other S.slot)).1 (S.dev.read (other S.slot)).1 d2.pen = true := by
        unfold chanceF
        rw [decide_eq_false (fun e => h1 (B_inj e)), decide_eq_true h3, Bool.not_false, Bool.true_and, Bool.true_and, List.all_eq_true]
        intro p hpm
        rw [decide_eq_false (fun e => h2 p hpm (B_inj e))]
        rfl
      rw [hc] at this
      cases this
    have hoth := (other_two hgr.heldOK.slot).1
    refine callW_of (chance_calls hDc (k := 0) (was := (S.dev.read 0).1) how25.sl) ?_
    rintro _ w26 ⟨rfl, he26⟩
    refine ⟨_, rfl, splitW_i (fun _ => ⟨rfl, hx25.trans he26⟩) (fun hc0 => ?_)⟩
    have hDc26 : DevAt w26 db2 dc Fc := hDc.ext he26
    refine callW_of (chance_calls hDc26 (k := 1) (was := (S.dev.read 1).1) (how25.ext he26).sl) ?_
    rintro _ w27 ⟨rfl, he27⟩
    refine ⟨_, rfl, splitW_i (fun _ => ⟨rfl, (hx25.trans he26).trans he27⟩) (fun hc1 => hJ70 _ _ ⟨he26.trans he27, ?_⟩)⟩
    rcases hoth with e | e
    · exact no hc0 e.symm
    · exact no hc1 e.symm
  rintro _ w26 ⟨he26, hnot⟩
  have hDc26 : DevAt w26 db2 dc Fc := hDc.ext he26
  have hx26 := hx25.trans he26
  refine callW_of (open_calls hDc26) ?_
  rintro _ w27 ⟨he27, hopen⟩
  have hx27 := hx26.trans he27
  have hdcs : dc.size ≤ 512 := by
    rw [← hdc]
    show d2.size ≤ 512
    rcases hmain with ⟨_, hz, _⟩ | ⟨hz, _⟩ | hz
    · have := hz.good.ok.size
      have h2 : d2.size = dc.size := by rw [← hdc]; rfl
      have h3 : ({ S with now := S.held, mark := none, dev := dc } : Spa).sup.size = dc.size := this
      have h4 : S.sup.size = dc.size := h3
      have := hI.sz
      omega
    · have := hz.good.ok.size
      have h2 : d2.size = dc.size := by rw [← hdc]; rfl
      have h3 : (S.commit nx).1.sup.size = dc.size := this
      have h5 : (S.commit nx).1.sup = S.next nx := by
        obtain ⟨c1, _⟩ := great_commit hgr hused (by omega) hfit
        rw [c1]
      rw [h5] at h3
      have h4 : S.sup.size = dc.size := h3
      have := hI.sz
      omega
    · exact absurd hz hnot
  rcases hmain with ⟨he, hz, hzp⟩ | ⟨hz, hzp⟩ | hz
  · -- as it was
    obtain ⟨o1, o2⟩ := great_open hz
    have o1 : opnOK dc := o1
    rcases hopen with ⟨hn, _⟩ | ⟨_, b9, F9, rfl, h9, _, _⟩
    · exact absurd o1 hn
    have o2 : openS dc = { S with now := S.held, mark := none, dev := dc } := o2
    rw [o2] at h9
    refine ⟨(some ⟨b9, 0, none⟩, 0, ()), rfl, splitW_f (by rfl) ?_⟩
    dsimp only
    refine callW_of (gen_at h9) ?_
    rintro _ w28 ⟨rfl, hw28⟩
    refine ⟨_, rfl, ?_⟩
    rw [hw28]
    refine splitW_t (beq_self_eq_true _) (splitW_t (bne_iff_ne.2 he) ?_)
    refine callW_of (sp_root h9) ?_
    rintro _ w29 ⟨rfl, hw29⟩
    refine ⟨_, rfl, ?_⟩
    rw [hw29]
    have e0 : ({ S with now := S.held, mark := none, dev := dc } : Spa).sup.root = root := hrt.1
    rw [e0]
    refine splitW_t (beq_self_eq_true _) (splitW_i (fun _ => ⟨rfl, hx27⟩) (fun hr0 => ?_))
    have hr0 : root ≠ 0 := by have := beq_eq_false_iff_ne.1 hr0; omega
    have hu := hrt.2.resolve_left hr0
    have hr32 : root < 4294967296 := by
      have := hgr.hwell.lt hu
      have := hdim.n
      omega
    refine callW_of (tell_calls (S := { S with now := S.held, mark := none, dev := dc }) hdcs 6 root w27 (by omega) hr32 h9) ?_
    rintro _ w30 ⟨rfl, he30⟩
    refine ⟨_, rfl, ?_, hx27.trans he30⟩
    have := tell_eq (S := { S with now := S.held, mark := none }) (Z := { S with now := S.held, mark := none, dev := dc }) hab.good hz.good (U := fun n => usedC S.sup.pages S.held n = true) (fun n hn => ⟨hn, hn, hzp n hn⟩) (fun n hn k hk => (hab.good.well.good n hn).2 k hk) 6 root hu
    rw [this, hold hr0, str_beq, decide_eq_true rfl]
  · -- the new one
    obtain ⟨c1, c2, c3, c4, c5, c6, c7⟩ := great_commit hgr hused (by omega) hfit
    have hsup : (S.commit nx).1.sup = S.next nx := by rw [c1]
    have hnowX : (S.commit nx).1.now = (S.commit nx).1.held := by rw [c1]
    have hmX : (S.commit nx).1.mark = none := by rw [c1]
    obtain ⟨o1, o2⟩ := great_open hz
    have o1 : opnOK dc := o1
    rcases hopen with ⟨hn, _⟩ | ⟨_, b9, F9, rfl, h9, _, _⟩
    · exact absurd o1 hn
    have eZ : ({ ({ (S.commit nx).1 with dev := dc } : Spa) with now := ({ (S.commit nx).1 with dev := dc } : Spa).held, mark := none } : Spa) = { (S.commit nx).1 with dev := dc } := by
      generalize (S.commit nx).1 = X at *
      cases X
      simp only at hnowX hmX
      subst hnowX hmX
      rfl
    have o2 : openS dc = { (S.commit nx).1 with dev := dc } := o2.trans eZ
    rw [o2] at h9
    have hroots : ∀ k, usedC S.sup.pages S.now k = true → usedC (S.commit nx).1.sup.pages (S.commit nx).1.now k = true := fun k hk => used_commit hgr hused (by omega) hfit hk
    generalize (S.commit nx).1 = X at *
    refine ⟨(some ⟨b9, 0, none⟩, 0, ()), rfl, splitW_f (by rfl) ?_⟩
    dsimp only
    refine callW_of (gen_at h9) ?_
    rintro _ w28 ⟨rfl, hw28⟩
    refine ⟨_, rfl, ?_⟩
    rw [hw28]
    have e0 : ({ X with dev := dc } : Spa).sup.gen = S.sup.gen + 1 := by show X.sup.gen = _; rw [hsup]; rfl
    rw [e0]
    have wg : IntKind.wrap .u64 ((S.sup.gen : Int) + 1) = ((S.sup.gen + 1 : Nat) : Int) := by rw [wrap_u64]; omega
    rw [wg]
    refine splitW_f (beq_eq_false_iff_ne.2 (by omega)) (splitW_t (beq_self_eq_true _) ?_)
    refine callW_of (sp_root h9) ?_
    rintro _ w29 ⟨rfl, hw29⟩
    refine ⟨_, rfl, ?_⟩
    rw [hw29]
    have e1 : ({ X with dev := dc } : Spa).sup.root = nx := by show X.sup.root = _; rw [hsup]; rfl
    rw [e1]
    refine splitW_t (beq_self_eq_true _) (splitW_i (fun _ => ⟨rfl, hx27⟩) (fun hn0 => ?_))
    have hn0 : nx ≠ 0 := by have := beq_eq_false_iff_ne.1 hn0; omega
    have hu := hused.resolve_left hn0
    refine callW_of (tell_calls (S := { X with dev := dc }) hdcs 6 nx w27 (by omega) hnx32 h9) ?_
    rintro _ w30 ⟨rfl, he30⟩
    refine ⟨_, rfl, ?_, hx27.trans he30⟩
    have := tell_eq (S := S) (Z := { X with dev := dc }) hgr.good hz.good (U := fun n => usedC S.sup.pages S.now n = true) (fun n hn => ⟨hn, hroots n hn, hzp n hn⟩) (fun n hn k hk => (hgr.good.well.good n hn).2 k hk) 6 nx hu
    rw [this, hnow hn0, str_beq, decide_eq_true rfl]
  · exact absurd hz hnot
end Go.Proofs.YtjdmggaeagnolaaGreatDoor.V
