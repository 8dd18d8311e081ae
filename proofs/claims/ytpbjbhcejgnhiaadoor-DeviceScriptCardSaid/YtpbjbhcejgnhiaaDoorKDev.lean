/- Contracts of the package device. -/
import Derived.Test.YtpbjbhcejgnhiaaDoorHD
import Derived.Test.YtpbjbhcejgnhiaaDoorShelf
import Derived.Test.YtpbjbhcejgnhiaaDoorKRead
set_option linter.unusedVariables false
set_option linter.unusedSimpArgs false
namespace Go.Proofs.YtpbjbhcejgnhiaaDoor.V
open Go Go.Proofs Go.RowKit Crc

/-- What a method leaves behind. -/
def Step (w : World) (b : Nat) (F : Nat → Prop) (d' : Dev) (w' : World) : Prop := ∃ F' : Nat → Prop, DevAt w' b d' F' ∧ (∀ k, F' k → F k ∨ w.heap.size ≤ k) ∧ Only F w w'
theorem there_calls {w : World} {b : Nat} {d : Dev} {F : Nat → Prop} (h : DevAt w b d F) (k : Int) :
    Calls Tryd.prog 41 #[.pointer (some ⟨b, 0, none⟩), .int .i64 k] w (Ret fun v w' => v = .bool (d.there k) ∧ w' = w) := by
  obtain ⟨Ad, Ap, nd, cd, np, cp, t, hb, hd, hp, hF, h1, h2, h3⟩ := h.mem
  apply calls41
  unfold S41 Dev.there
  refine splitW_i (fun hz => ?_) (fun hz => ?_)
  · have hz := of_decide_eq_true hz
    refine ptr_i (boxF 1 d.blocks hb (by rfl) ⟨?_, rfl⟩)
    congr 1
    exact decide_eq_decide.2 (by omega)
  · have hz := of_decide_eq_false hz
    refine ⟨?_, rfl⟩
    congr 1
    exact (decide_eq_false (by omega)).symm
theorem ops_calls {w : World} {b : Nat} {d : Dev} {F : Nat → Prop} (h : DevAt w b d F) :
    Calls Tryd.prog 22 #[.pointer (some ⟨b, 0, none⟩)] w (Ret fun v w' => v = .int .i64 d.ops ∧ w' = w) := by
  obtain ⟨Ad, Ap, nd, cd, np, cp, t, hb, hd, hp, hF, h1, h2, h3⟩ := h.mem
  apply calls22
  unfold S22
  exact splitW_f (by rfl) (ptr_i (boxF 4 d.ops hb (by rfl) ⟨rfl, rfl⟩))
/-- Numbers of the box are set. -/
theorem DevAt.put {w : World} {b o : Nat} {d d' : Dev} {F : Nat → Prop} {v : Value} (h : DevAt w b d F) (ho : ∀ Ad nd cd Ap np cp, ([.int .i64 d.size, .int .i64 d.blocks, .slice Ad nd cd, .slice Ap np cp, .int .i64 d.ops, .int .i64 d.fuse] : List Value).set o v = [.int .i64 d'.size, .int .i64 d'.blocks, .slice Ad nd cd, .slice Ap np cp, .int .i64 d'.ops, .int .i64 d'.fuse])
    (hd' : d'.dur = d.dur) (hp' : d'.pen = d.pen) (hok : d'.Ok) : DevAt (w.setCell ⟨b, o, none⟩ v) b d' F := by
  obtain ⟨Ad, Ap, nd, cd, np, cp, t, hb, hd, hp, hF, h1, h2, h3⟩ := h.mem
  have hg := set_grown w b o v
  refine ⟨⟨Ad, Ap, nd, cd, np, cp, t, ?_, ?_, ?_, hF, h1, h2, h3⟩, hok⟩
  · rw [← ho Ad nd cd Ap np cp]; exact hb.set o v
  · rw [hd']; exact hd.grown hg (fun j hj e => by injection hj with hj; subst hj; exact h1 e)
  · rw [hp']; exact hp.grown hg (fun j hj e => by injection hj with hj; subst hj; exact h2 e)
theorem Dev.Ok.burnt {d : Dev} (h : d.Ok) : d.burnt.Ok := by
  refine ⟨h.geo, h.len, h.each, h.pend, ?_⟩
  have := h.fuse
  show -1 ≤ max (-1) (d.fuse - 1) ∧ max (-1) (d.fuse - 1) < 9223372036854775808
  omega
theorem done_calls {w : World} {b : Nat} {d : Dev} {F : Nat → Prop} (h : DevAt w b d F) :
    Calls Tryd.prog 42 #[.pointer (some ⟨b, 0, none⟩)] w (Ret fun v w' => (d.fuse = 0 ∧ v = .bool false ∧ w' = w) ∨ (d.fuse ≠ 0 ∧ v = .bool true ∧ DevAt w' b d.burnt F ∧ w.grownBy w' (some b))) := by
  obtain ⟨Ad, Ap, nd, cd, np, cp, t, hb, hd, hp, hF, h1, h2, h3⟩ := h.mem
  have hf := h.ok.fuse
  apply calls42
  unfold S42
  refine ptr_i (boxF 5 d.fuse hb (by rfl) (splitW_i (fun hz => .inl ⟨beq_iff_eq.1 hz, rfl, rfl⟩) (fun hz => ?_)))
  have hz := beq_eq_false_iff_ne.1 hz
  have ef : (if IntKind.wrap .i64 (d.fuse - 1) > -1 then IntKind.wrap .i64 (d.fuse - 1) else -1) = max (-1) (d.fuse - 1) := by
    rw [wrap_i64 (by omega) (by omega)]
    split <;> omega
  refine ptr_i (boxF 5 d.fuse hb (by rfl) ?_)
  rw [ef]
  refine ptr_i ?_
  rw [add_mk]
  refine stW_blk hb (by show 0 + 5 < 6; omega) ?_
  have hg1 := set_grown w b (0 + 5) (.int .i64 (max (-1) (d.fuse - 1)))
  have hD := h.put (d' := { d with fuse := max (-1) (d.fuse - 1) }) (o := 0 + 5) (v := .int .i64 (max (-1) (d.fuse - 1))) (fun _ _ _ _ _ _ => rfl) rfl rfl ⟨h.ok.geo, h.ok.len, h.ok.each, h.ok.pend, by dsimp only; omega⟩
  have hb1 := hb.set (0 + 5) (.int .i64 (max (-1) (d.fuse - 1)))
  generalize w.setCell ⟨b, 0 + 5, none⟩ (.int .i64 (max (-1) (d.fuse - 1))) = w1 at hg1 hD hb1 ⊢
  refine ptr_i (boxF 4 d.ops hb1 (by rfl) (ptr_i ?_))
  rw [add_mk]
  refine stW_blk hb1 (by show 0 + 4 < 6; omega) ?_
  have hg2 := set_grown w1 b (0 + 4) (.int .i64 (IntKind.wrap .i64 (d.ops + 1)))
  have hD2 := hD.put (d' := d.burnt) (o := 0 + 4) (v := .int .i64 (IntKind.wrap .i64 (d.ops + 1))) (fun _ _ _ _ _ _ => rfl) rfl rfl h.ok.burnt
  exact .inr ⟨hz, rfl, hD2, grownBy_tr hg1 hg2 (fun j hj => .inl hj)⟩
theorem fuse_calls {w : World} {b : Nat} {d : Dev} {F : Nat → Prop} (h : DevAt w b d F) {n : Int} (hn : n < 9223372036854775808) :
    Calls Tryd.prog 21 #[.pointer (some ⟨b, 0, none⟩), .int .i64 n] w (Ret fun v w' => v = .tuple #[] ∧ Step w b F { d with fuse := max (-1) n } w') := by
  obtain ⟨Ad, Ap, nd, cd, np, cp, t, hb, hd, hp, hF, h1, h2, h3⟩ := h.mem
  apply calls21
  unfold S21
  have ef : (if n > -1 then n else -1) = max (-1) n := by split <;> omega
  refine splitW_t (by rfl) (ptr_i ?_)
  rw [ef, add_mk]
  refine stW_blk hb (by show 0 + 5 < 6; omega) ?_
  have hg1 := set_grown w b (0 + 5) (.int .i64 (max (-1) n))
  have hD := h.put (d' := { d with fuse := max (-1) n }) (o := 0 + 5) (v := .int .i64 (max (-1) n)) (fun _ _ _ _ _ _ => rfl) rfl rfl ⟨h.ok.geo, h.ok.len, h.ok.each, h.ok.pend, by dsimp only; omega⟩
  exact ⟨rfl, F, hD, fun k hk => .inl hk, Only.of_grown hg1 (fun j hj => by injection hj with hj; subst hj; exact .inl h.box)⟩
theorem elem_write : ElemK Tryd.prog 40 53 (.agg #[.int .i64 0, .string ByteArray.empty]) 2 24 := ⟨by kernel_rfl, by kernel_rfl, by kernel_rfl⟩
theorem write_calls {w : World} {b : Nat} {d : Dev} {F : Nat → Prop} (h : DevAt w b d F) (k : Int) (s : ByteArray) (hn : d.pen.length ≤ 1000000) :
    Calls Tryd.prog 14 #[.pointer (some ⟨b, 0, none⟩), .int .i64 k, .string s] w (Ret fun v w' => v = .int .i64 (d.write k s).2 ∧ Step w b F (d.write k s).1 w') := by
  have stay : ∀ {w' : World}, w' = w → Step w b F d w' := fun e => by subst e; exact ⟨F, h, fun k hk => .inl hk, Only.refl F _⟩
  apply calls14
  unfold S14 Dev.write
  refine splitW_f (by rfl) ?_
  refine callW_of (there_calls h k) ?_
  rintro _ w1 ⟨rfl, hw⟩
  refine ⟨_, rfl, ?_⟩
  subst hw
  obtain ⟨Ad, Ap, nd, cd, np, cp, t, hb, hd, hp, hF, h1, h2, h3⟩ := h.mem
  refine splitW_i (fun hz => ?_) (fun hz => ?_)
  · have hz : ¬ (0 ≤ k ∧ k < d.blocks) := of_decide_eq_false (show d.there k = false by simpa using hz)
    rw [if_pos (.inl hz)]
    exact ⟨rfl, stay rfl⟩
  have hth : 0 ≤ k ∧ k < d.blocks := of_decide_eq_true (show d.there k = true by simpa using hz)
  refine ptr_i (box0 d.size hb (by rfl) (splitW_i (fun hz => ?_) (fun hz => ?_)))
  · rw [if_pos (.inr (bne_iff_ne.1 hz))]
    exact ⟨rfl, stay rfl⟩
  have hsz := bne_eq_false_iff_eq.1 hz
  rw [if_neg (by rintro (x | x); exact x hth; exact x hsz)]
  refine callW_of (done_calls h) ?_
  rintro _ w2 (⟨hz, rfl, hw⟩ | ⟨hz, rfl, hD, hg⟩)
  · refine ⟨_, rfl, splitW_t (by rfl) ?_⟩
    rw [if_pos hz]
    exact ⟨rfl, stay hw⟩
  refine ⟨_, rfl, splitW_f (by rfl) ?_⟩
  rw [if_neg hz]
  obtain ⟨Ad, Ap, nd, cd, np, cp, t, hb, hd, hp, hF, h1, h2, h3⟩ := hD.mem
  have hlp := hp.len
  have hlp2 : d.burnt.pen = d.pen := rfl
  refine ptr_i (boxF 3 (Ap, np, cp) hb (by rfl) ?_)
  refine append_newi (E := writeE) (ys := [(k, s)]) (by rfl) rfl elem_write hp (Nat.zero_le _) (by dsimp only; rw [hlp2] at hlp; omega) (by omega) ?_
  intro A' c' w3 hp3 hg3
  have hb3 := hb.grown hg3.grown (fun e => h2 e.symm)
  have hd3 := hd.grown hg3.grown (fun j hj e => h3 j e hj)
  refine ptr_i ?_
  rw [add_mk]
  refine stW_blk hb3 (by show 0 + 3 < 6; omega) ?_
  have hg4 := set_grown w3 b (0 + 3) (.slice A' (np + 1) c')
  have hb4 := hb3.set (0 + 3) (.slice A' (np + 1) c')
  have hb5 := (hF b).2 (.inl rfl)
  have hnew : ∀ j, orow A' = some j → orow Ap = some j ∨ w2.heap.size ≤ j := hg3.2
  have hbl := hb.lt
  have n1 : orow A' ≠ some b := fun e => by rcases hnew b e with x | x; exact h2 x; omega
  have n2 : ∀ j, orow Ad = some j → orow A' ≠ some j := fun j hj e => by
    rcases hnew j e with x | x
    · exact h3 j hj x
    · have := hd.row_lt j hj; omega
  refine ⟨rfl, fun j => j = b ∨ orow Ad = some j ∨ orow A' = some j, ⟨⟨Ad, A', nd, cd, np + 1, c', t, hb4, hd3.grown hg4 (fun j hj e => by injection hj with hj; subst hj; exact h1 e), hp3.grown hg4 (fun j hj e => by injection hj with hj; subst hj; exact n1 e), fun _ => Iff.rfl, h1, n1, n2⟩, ?_⟩, ?_, ?_⟩
  · refine ⟨hD.ok.geo, hD.ok.len, hD.ok.each, fun p hp => ?_, hD.ok.fuse⟩
    rcases List.mem_append.1 hp with hp | hp
    · exact hD.ok.pend p hp
    · rw [List.mem_singleton.1 hp]; exact ⟨hth.1, hth.2, hsz⟩
  · rintro j (rfl | hj | hj)
    · exact .inl hb5
    · exact .inl ((hF j).2 (.inr (.inl hj)))
    · rcases hnew j hj with x | x
      · exact .inl ((hF j).2 (.inr (.inr x)))
      · exact .inr (Nat.le_trans hg.size x)
  · refine Only.trans (Only.trans (Only.of_grown hg (fun j hj => by injection hj with hj; subst hj; exact .inl hb5)) (Only.of_grown (F := F) hg3.grown (fun j hj => .inl ((hF j).2 (.inr (.inr hj))))) (fun j hj => .inl hj)) (Only.of_grown (F := F) hg4 (fun j hj => by injection hj with hj; subst hj; exact .inl hb5)) (fun j hj => .inl hj)
theorem strE_flat (l : List ByteArray) : strE.flat l = l.map Value.string := by
  induction l with
  | nil => rfl
  | cons a r ih => rw [List.map_cons, ← ih]; rfl
theorem idx_setS {w : World} {e : TypeId} {B : Nat} {A : Option Addr} {n c : Nat} {xs : List ByteArray} {i : Int} {s : ByteArray} {K : WP} (h : Owni strE e w B A n c xs) (h0 : 0 ≤ i) (h1 : i < (n : Int))
    (hK : ∀ w', Owni strE e w' B A n c (xs.set i.toNat s) → w.grownBy w' (orow A) → K w') :
    (guardW (0 ≤ i ∧ i < ((n : Nat) : Int)) <| ptrW A fun p => stW (p.add (Int.toNat i * 1)) (.string s) K) w := by
  refine idx_set (e := e) (B := B) (c := c) (vs := strE.flat xs) h h0 h1 fun w' ho hg => hK w' ?_ (by rw [orow_eq] at hg; exact hg)
  have e1 : (strE.flat xs).set i.toNat (.string s) = strE.flat (xs.set i.toNat s) := by rw [strE_flat, strE_flat, List.map_set]
  rw [e1] at ho
  exact ho
theorem puts_len (l : List (Int × ByteArray)) : ∀ dur : List ByteArray, (l.foldl Go.Proofs.YtpbjbhcejgnhiaaDoor.V.put dur).length = dur.length := by
  induction l with
  | nil => intro dur; rfl
  | cons p r ih => intro dur; rw [List.foldl_cons, ih]; simp [Go.Proofs.YtpbjbhcejgnhiaaDoor.V.put]
theorem puts_each {n : Int} (l : List (Int × ByteArray)) : ∀ dur : List ByteArray, (∀ s ∈ dur, (s.size : Int) = n) → (∀ p ∈ l, (p.2.size : Int) = n) → ∀ s ∈ l.foldl Go.Proofs.YtpbjbhcejgnhiaaDoor.V.put dur, (s.size : Int) = n := by
  induction l with
  | nil => intro dur h _; exact h
  | cons p r ih =>
    intro dur h hl
    rw [List.foldl_cons]
    refine ih _ (fun s hs => ?_) (fun q hq => hl q (List.mem_cons_of_mem _ hq))
    rcases List.mem_or_eq_of_mem_set hs with hs | rfl
    · exact h s hs
    · exact hl p List.mem_cons_self
theorem flush_calls {w : World} {b : Nat} {d : Dev} {F : Nat → Prop} (h : DevAt w b d F) :
    Calls Tryd.prog 15 #[.pointer (some ⟨b, 0, none⟩)] w (Ret fun v w' => v = .int .i64 d.flush.2 ∧ Step w b F d.flush.1 w') := by
  have stay : ∀ {w' : World}, w' = w → Step w b F d w' := fun e => by subst e; exact ⟨F, h, fun k hk => .inl hk, Only.refl F _⟩
  apply calls15
  unfold S15 Dev.flush
  refine splitW_f (by rfl) ?_
  refine callW_of (done_calls h) ?_
  rintro _ w2 (⟨hz, rfl, hw⟩ | ⟨hz, rfl, hD, hg⟩)
  · refine ⟨_, rfl, splitW_t (by rfl) ?_⟩
    rw [if_pos hz]
    exact ⟨rfl, stay hw⟩
  refine ⟨_, rfl, splitW_f (by rfl) ?_⟩
  rw [if_neg hz]
  obtain ⟨Ad, Ap, nd, cd, np, cp, t, hb, hd, hp, hF, h1, h2, h3⟩ := hD.mem
  have hlp : d.pen.length = np := hp.len
  have hld : d.dur.length = nd := hd.len
  have hpl := hp.sl.le
  have hok := h.ok
  refine ptr_i (boxF 3 (Ap, np, cp) hb (by rfl) ?_)
  refine loopW_i (fun y w' => ∃ i : Nat, i ≤ np ∧ y = ((i : Int), ()) ∧ Only F w2 w' ∧ Blk w' b [.int .i64 d.size, .int .i64 d.blocks, .slice Ad nd cd, .slice Ap np cp, .int .i64 d.burnt.ops, .int .i64 d.burnt.fuse] t
      ∧ Owni strE 9 w' 0 Ad nd cd ((d.pen.take i).foldl Go.Proofs.YtpbjbhcejgnhiaaDoor.V.put d.dur) ∧ Owni writeE 53 w' 0 Ap np cp d.pen) (fun y => (np - y.1).toNat) ⟨0, by omega, rfl, Only.refl F w2, hb, hd, hp⟩ ?_
  rintro _ w3 ⟨i, hi, rfl, hO, hb, hd, hp⟩
  dsimp only
  by_cases hlt : i < np
  · refine splitW_t (decide_eq_true (by omega)) ?_
    refine idx_A (ls := [.int .i64, .str]) (fun x : Int × ByteArray => (x.1, x.2, ())) (0, ByteArray.empty) hp.sl (fun _ => rfl) rfl (by omega) (by omega) ?_
    rw [Int.toNat_natCast]
    have e : d.pen[i]? = some (d.pen.getD i (0, ByteArray.empty)) := by rw [List.getD_eq_getElem?_getD, List.getElem?_eq_getElem (by omega)]; rfl
    have hq := hok.pend _ (List.mem_of_getElem? e)
    generalize d.pen.getD i (0, ByteArray.empty) = q at e hq ⊢
    have hlen := hok.len
    refine box_i (vs := writeE.f q) (by rfl) (writeE.one q) ?_ (by rfl)
    intro r8 w4 hb8 he4 hr8
    refine draw_i fun w5 he5 _ _ => ?_
    have he35 := he4.trans he5
    have hb8 := hb8.ext he5
    have hb5 := hb.ext he35
    have hd5 := hd.ext he35
    refine ptr_i (boxF 2 (Ad, nd, cd) hb5 (by rfl) (box0 q.1 hb8 (by rfl) (boxF 1 q.2 hb8 (by rfl) ?_)))
    dsimp only
    refine idx_setS hd5 hq.1 (by have := hq.2.1; omega) ?_
    intro w6 hd6 hg6
    have hb6 := hb5.grown hg6 (fun e => h1 e.symm)
    have hp6 := (hp.ext he35).grown hg6 (fun j hj e => h3 j hj e)
    have efold : (d.pen.take (i + 1)).foldl Go.Proofs.YtpbjbhcejgnhiaaDoor.V.put d.dur = Go.Proofs.YtpbjbhcejgnhiaaDoor.V.put ((d.pen.take i).foldl Go.Proofs.YtpbjbhcejgnhiaaDoor.V.put d.dur) q := by
      rw [List.take_add_one, e, List.foldl_append]
      rfl
    refine ⟨⟨i + 1, by omega, by rw [wrap_i64 (by omega) (by omega)]; rfl, ?_, hb6, by rw [efold]; exact hd6, hp6⟩, by rw [wrap_i64 (by omega) (by omega)]; omega⟩
    exact Only.trans (Only.trans hO (Only.of_ext (F := F) he35) (fun j hj => .inl hj)) (Only.of_grown (F := F) hg6 (fun j hj => .inl ((hF j).2 (.inr (.inl hj))))) (fun j hj => .inl hj)
  · obtain rfl : i = np := by omega
    refine splitW_f (decide_eq_false (by omega)) (ptr_i ?_)
    rw [add_mk]
    refine stW_blk hb (by show 0 + 3 < 6; omega) ?_
    have hg7 := set_grown w3 b (0 + 3) (.slice none 0 0)
    have hb7 := hb.set (0 + 3) (.slice none 0 0)
    rw [List.take_of_length_le (by omega)] at hd
    have hbF := (hF b).2 (.inl rfl)
    refine ⟨rfl, fun j => j = b ∨ orow Ad = some j ∨ orow none = some j, ⟨⟨Ad, none, nd, cd, 0, 0, t, hb7, hd.grown hg7 (fun j hj e => by injection hj with hj; subst hj; exact h1 e), Owni.nil _ _ _, fun _ => Iff.rfl, h1, (fun e => by cases e), (fun j hj e => by cases e)⟩, ?_⟩, ?_, ?_⟩
    · exact ⟨hok.geo, by show (((d.pen.foldl Go.Proofs.YtpbjbhcejgnhiaaDoor.V.put d.dur).length : Nat) : Int) = d.blocks; rw [puts_len]; exact hok.len, puts_each _ _ hok.each (fun p hp => (hok.pend p hp).2.2), (fun p hp => by cases hp), hD.ok.fuse⟩
    · rintro j (rfl | hj | hj)
      · exact .inl hbF
      · exact .inl ((hF j).2 (.inr (.inl hj)))
      · cases hj
    · exact Only.trans (Only.trans (Only.of_grown (F := F) hg (fun j hj => by injection hj with hj; subst hj; exact .inl hbF)) hO (fun j hj => .inl hj)) (Only.of_grown (F := F) hg7 (fun j hj => by injection hj with hj; subst hj; exact .inl hbF)) (fun j hj => .inl hj)
end Go.Proofs.YtpbjbhcejgnhiaaDoor.V
