/- Contracts of the package super and of the document's answer (11): Choose, Other, Same. -/
import Derived.Test.YtiiemgndnpflbaaKSuper3
set_option linter.unusedVariables false
set_option linter.unusedSimpArgs false
namespace Go.Proofs.Ytiiemgndnpflbaa.V
open Go Go.Proofs Go.RowKit Crc

theorem Sli.grown {α : Type} {E : Enc α} {w w' : World} {A : Option Addr} {n : Nat} {xs : List α} {row : Option Nat} (h : Sli E w A n xs) (hg : w.grownBy w' row) (hr : ∀ a, A = some a → some a.block ≠ row) : Sli E w' A n xs := by
  refine ⟨h.1, h.2.1, fun hn => ?_⟩
  obtain ⟨a, ha, hs, hc⟩ := h.2.2 hn
  refine ⟨a, ha, hs, fun j v hj => hg.cell (hc j v hj) ?_⟩
  have : (a.add j).block = a.block := by unfold Addr.add; split <;> rfl
  rw [this]
  exact hr a ha
theorem Pg.grown {w w' : World} {x : SLC} {ps : List Nat} {row : Option Nat} (h : Pg w x ps) (hg : w.grownBy w' row) (hr : ∀ a, x.1 = some a → some a.block ≠ row) : Pg w' x ps := ⟨h.sl.grown hg hr, h.nc⟩
/-- A slice that was there before a box was made is not in it. -/
theorem Pg.old {w0 w w' : World} {x : SLC} {ps : List Nat} {r : Nat} (h0 : Pg w0 x ps) (h : Pg w x ps) (hg : w.grownBy w' (some r)) (hr : w0.heap.size ≤ r) : Pg w' x ps := by
  by_cases hn : 0 < x.2.1
  · refine h.grown hg (fun a ha e => ?_)
    obtain ⟨a', ha', _, hc⟩ := h0.sl.2.2 hn
    rw [ha] at ha'
    injection ha' with ha'
    subst ha'
    injection e with e
    have hl := h0.len
    have h1 := hc 0 ((numE .u32).f (ps.getD 0 0)).head! (by
      match ps, hl with
      | p :: r, _ => rfl
      | [], hl => simp at hl; omega)
    have hlt := World.block_lt_of_cell? w0 _ h1
    have hbl : (a.add 0).block = a.block := by unfold Addr.add; split <;> rfl
    omega
  · have hz : x.2.1 = 0 := by omega
    have hl := h.len
    refine ⟨?_, h.nc⟩
    have hp : ps = [] := List.length_eq_zero_iff.1 (by omega)
    rw [hz, hp]
    exact Sli.nil w' x.1
def geoEq (a b : Int × Int) : Bool := (a.1 == b.1) && ((a.2 == b.2) && true)
theorem fields_geo (w : World) (a b : Int × Int) : (Op.eqFields 9999 #[.int .i64 a.1, .int .i64 a.2] #[.int .i64 b.1, .int .i64 b.2] (Try.prog.fieldsOf 24).toList).run Try.prog w = .ok (geoEq a b) w := by
  have hf : (Try.prog.fieldsOf 24).toList = [(Try.prog.fieldsOf 24).getD 0 default, (Try.prog.fieldsOf 24).getD 1 default] := by kernel_rfl
  rw [hf]
  unfold geoEq
  refine eqFields_step (of_decide_eq_true (by kernel_rfl)) (a := .int .i64 a.1) (b := .int .i64 b.1) (by kernel_rfl) (by kernel_rfl) (run_equalIn_int w 9998 _ .i64 .i64 _ _ (by kernel_rfl)) ?_
  refine eqFields_step (of_decide_eq_true (by kernel_rfl)) (a := .int .i64 a.2) (b := .int .i64 b.2) (by kernel_rfl) (by kernel_rfl) (run_equalIn_int w 9998 _ .i64 .i64 _ _ (by kernel_rfl)) ?_
  rfl
theorem neq_geo (w : World) (a b : Int × Int) (x y : Operand) : (eqS .neq 24 x y (.agg #[.int .i64 a.1, .int .i64 a.2]) (.agg #[.int .i64 b.1, .int .i64 b.2])).run Try.prog w = .ok (.bool (!(geoEq a b))) w :=
  eqS_neq (by kernel_rfl) (by kernel_rfl) (by kernel_rfl) (fields_geo w a b)
theorem ssame_calls {w : World} {s q : Sup} {x y : SLC} (hx : Pg w x s.pages) (hy : Pg w y q.pages) :
    Calls Try.prog 12 #[.agg (sV s x).toArray, .agg (sV q y).toArray] w (Ret fun v w' => v = .bool (decide (s = q)) ∧ Ext w w') := by
  apply calls12
  unfold S12
  have lx := hx.len
  have ly := hy.len
  have cx := hx.sl.le
  refine new_i fun r1 w1 hb1 he1 _ _ => ?_
  have hb1 : Blk w1 r1 (sV s x) 28 := hb1
  refine new_i fun r2 w2 hb2 he2 _ _ => ?_
  have hb2 : Blk w2 r2 (sV q y) 28 := hb2
  have hb1 := hb1.ext he2
  have he2 := he1.trans he2
  have hx := hx.ext he2
  have hy := hy.ext he2
  have no : ∀ {w' : World}, s ≠ q → Ext w w' → (Value.bool false = .bool (decide (s = q)) ∧ Ext w w') := fun h he => ⟨by rw [decide_eq_false h], he⟩
  refine box0 (s.gen : Int) hb1 (by rfl) (box0 (q.gen : Int) hb2 (by rfl) ?_)
  refine splitW_i (fun hz => ?_) (fun hz => ?_)
  · exact no (fun e => bne_iff_ne.1 hz (by rw [e])) he2
  have g1 := bne_eq_false_iff_eq.1 hz
  refine boxAt (ls := [.int .i64, .int .i64]) (s.size, s.blocks, ()) hb1 (by rfl) (boxAt (ls := [.int .i64, .int .i64]) (q.size, q.blocks, ()) hb2 (by rfl) ?_)
  refine ⟨_, fun w' => neq_geo w' (s.size, s.blocks) (q.size, q.blocks) _ _, ?_⟩
  refine splitW_i (fun hz => ?_) (fun hz => ?_)
  · refine no (fun e => ?_) he2
    subst e
    simp [geoEq] at hz
  have g2 : s.size = q.size ∧ s.blocks = q.blocks := by simpa [geoEq] using hz
  refine boxF 3 (s.root : Int) hb1 (by rfl) (boxF 3 (q.root : Int) hb2 (by rfl) ?_)
  refine splitW_i (fun hz => ?_) (fun hz => ?_)
  · exact no (fun e => bne_iff_ne.1 hz (by rw [e])) he2
  have g3 := bne_eq_false_iff_eq.1 hz
  refine boxF 4 x hb1 (by rfl) (boxF 4 y hb2 (by rfl) ?_)
  refine splitW_i (fun hz => ?_) (fun hz => ?_)
  · exact no (fun e => bne_iff_ne.1 hz (by rw [← lx, ← ly, e])) he2
  have g4 := bne_eq_false_iff_eq.1 hz
  refine loopW_i (fun z w' => ∃ i : Nat, i ≤ x.2.1 ∧ z = ((i : Int), ()) ∧ Ext w2 w' ∧ s.pages.take i = q.pages.take i) (fun z => (x.2.1 - z.1).toNat) ⟨0, by omega, rfl, Ext.refl _, rfl⟩ ?_
  rintro _ w3 ⟨i, hi, rfl, he3, htk⟩
  dsimp only
  have hb13 := hb1.ext he3
  refine boxF 4 x hb13 (by rfl) ?_
  by_cases hlt : i < x.2.1
  · refine splitW_t (decide_eq_true (by omega)) ?_
    refine draw_i fun w4 he4 _ _ => ?_
    have he4 := he3.trans he4
    have hb1 := hb1.ext he4
    have hb2 := hb2.ext he4
    have hx := hx.ext he4
    have hy := hy.ext he4
    refine boxF 4 x hb1 (by rfl) (idx_num hx.sl (by omega) (by omega) ?_)
    refine boxF 4 y hb2 (by rfl) (idx_num hy.sl (by omega) (by omega) ?_)
    rw [Int.toNat_natCast]
    have e1 : s.pages[i]? = some (s.pages.getD i 0) := by rw [List.getD_eq_getElem?_getD, List.getElem?_eq_getElem (by omega)]; rfl
    have e2 : q.pages[i]? = some (q.pages.getD i 0) := by rw [List.getD_eq_getElem?_getD, List.getElem?_eq_getElem (by omega)]; rfl
    refine splitW_i (fun hz => ?_) (fun hz => ?_)
    · exact no (fun e => bne_iff_ne.1 hz (by rw [e])) (he2.trans he4)
    · have hz := bne_eq_false_iff_eq.1 hz
      refine ⟨⟨i + 1, by omega, by rw [wrap_i64 (by omega) (by omega)]; rfl, he4, ?_⟩, by rw [wrap_i64 (by omega) (by omega)]; omega⟩
      rw [List.take_add_one, List.take_add_one, htk, e1, e2, show s.pages.getD i 0 = q.pages.getD i 0 by omega]
  · refine splitW_f (decide_eq_false (by omega)) ?_
    rw [List.take_of_length_le (by omega), List.take_of_length_le (by omega)] at htk
    refine ⟨?_, he2.trans he3⟩
    congr 1
    refine (decide_eq_true ?_).symm
    cases s
    cases q
    simp only [Sup.mk.injEq]
    dsimp only at g1 g2 g3 htk
    exact ⟨by omega, g2.1, g2.2, by omega, htk⟩
theorem other_calls (w : World) (slot : Int) : Calls Try.prog 20 #[.int .i64 slot] w (Ret fun v w' => v = .int .i64 (other slot) ∧ w' = w) := by
  apply calls20
  unfold S20 other
  refine splitW_i (fun h => ?_) (fun h => ?_)
  · rw [if_pos (beq_iff_eq.1 h)]; exact ⟨rfl, rfl⟩
  · rw [if_neg (beq_eq_false_iff_ne.1 h)]; exact ⟨rfl, rfl⟩
theorem rother_calls (w : World) (slot : Int) : Calls Try.prog 26 #[.int .i64 slot] w (Ret fun v w' => v = .int .i64 (other slot) ∧ w' = w) := by
  apply calls26
  unfold S26 other
  refine splitW_i (fun h => ?_) (fun h => ?_)
  · rw [if_pos (beq_iff_eq.1 h)]; exact ⟨rfl, rfl⟩
  · rw [if_neg (beq_eq_false_iff_ne.1 h)]; exact ⟨rfl, rfl⟩
def ChoRet (w : World) (a b : List UInt8) (v : Value) (w' : World) : Prop := ∃ x : SLC, v = .tuple #[.int .i64 (chooseS a b).1, .agg (sV (chooseS a b).2.1 x).toArray, .int .i64 (chooseS a b).2.2] ∧ Pg w' x (chooseS a b).2.1.pages ∧ Ext w w' ∧ ∀ c, x.1 = some c → w.heap.size ≤ c.block
/-- The choice, a step after the other. -/
def cstepS (c : Int × Sup) (i : Int) (g : Sup × Int) : Int × Sup := if g.2 = 0 ∧ (c.1 < 0 ∨ g.1.gen > c.2.gen) then (i, g.1) else c
def cho (a b : List UInt8) : Nat → Int × Sup
  | 0 => (-1, sup0)
  | 1 => cstepS (-1, sup0) 0 (getS a)
  | _ + 2 => cstepS (cstepS (-1, sup0) 0 (getS a)) 1 (getS b)
theorem cho_end (a b : List UInt8) : chooseS a b = if (cho a b 2).1 < 0 then (-1, sup0, 10) else ((cho a b 2).1, (cho a b 2).2, 0) := by
  have e1 : cstepS (-1, sup0) 0 (getS a) = if (getS a).2 = 0 then (0, (getS a).1) else (-1, sup0) := by
    unfold cstepS
    by_cases h : (getS a).2 = 0
    · rw [if_pos h, if_pos ⟨h, .inl (by omega)⟩]
    · rw [if_neg h, if_neg (fun hh => h hh.1)]
  show chooseS a b = if (cstepS (cstepS (-1, sup0) 0 (getS a)) 1 (getS b)).1 < 0 then (-1, sup0, 10) else ((cstepS (cstepS (-1, sup0) 0 (getS a)) 1 (getS b)).1, (cstepS (cstepS (-1, sup0) 0 (getS a)) 1 (getS b)).2, 0)
  by_cases h : (getS a).2 = 0 <;> by_cases h2 : (getS b).2 = 0
  · rw [if_pos h] at e1
    rw [e1]
    by_cases h3 : (getS b).1.gen > (getS a).1.gen
    · have e2 : cstepS (0, (getS a).1) 1 (getS b) = (1, (getS b).1) := if_pos ⟨h2, .inr h3⟩
      rw [e2]
      unfold chooseS
      rw [if_neg (fun x => x.1 h), if_pos (.inr ⟨h2, h3⟩)]
      rfl
    · have e2 : cstepS (0, (getS a).1) 1 (getS b) = (0, (getS a).1) := if_neg (by rintro ⟨_, x | x⟩; exact absurd x (show ¬ (0 : Int) < 0 by omega); exact h3 x)
      rw [e2]
      unfold chooseS
      rw [if_neg (fun x => x.1 h), if_neg (by rintro (x | x); exact x h; exact h3 x.2)]
      rfl
  · rw [if_pos h] at e1
    rw [e1]
    have e2 : cstepS (0, (getS a).1) 1 (getS b) = (0, (getS a).1) := if_neg (fun x => h2 x.1)
    rw [e2]
    unfold chooseS
    rw [if_neg (fun x => x.1 h), if_neg (by rintro (x | x); exact x h; exact h2 x.1)]
    rfl
  · rw [if_neg h] at e1
    rw [e1]
    have e2 : cstepS (-1, sup0) 1 (getS b) = (1, (getS b).1) := if_pos ⟨h2, .inl (by decide)⟩
    rw [e2]
    unfold chooseS
    rw [if_neg (fun x => x.2 h2), if_pos (.inl h)]
    rfl
  · rw [if_neg h] at e1
    rw [e1]
    have e2 : cstepS (-1, sup0) 1 (getS b) = (-1, sup0) := if_neg (fun x => h2 x.1)
    rw [e2]
    unfold chooseS
    rw [if_pos ⟨h, h2⟩]
    rfl
theorem cstepS_neg {c : Int × Sup} {i : Int} {g : Sup × Int} (hi : 0 ≤ i) (h : c.1 < 0 → c = (-1, sup0)) : (cstepS c i g).1 < 0 → cstepS c i g = (-1, sup0) := by
  unfold cstepS
  split
  · intro h1; dsimp only at h1; omega
  · exact h
theorem cho_neg (a b : List UInt8) : (cho a b 2).1 < 0 → cho a b 2 = (-1, sup0) :=
  cstepS_neg (by omega) (cstepS_neg (by omega) (fun _ => rfl))
theorem choose_calls (w : World) (a b : ByteArray) (ha : a.size ≤ 9223372036854775807) (hb : b.size ≤ 9223372036854775807) : Calls Try.prog 10 #[.string a, .string b] w (Ret (ChoRet w (B a) (B b))) := by
  apply calls10
  unfold S10
  refine new_i fun r1 w1 hb1 he1 hr1 _ => ?_
  have hb1 : Blk w1 r1 (sV sup0 (none, 0, 0)) 28 := hb1
  have h1lt := hb1.lt
  refine loopW_i (fun y w' => ∃ (i : Nat) (x : SLC), i ≤ 2 ∧ y = ((cho (B a) (B b) i).1, (i : Int), ()) ∧ Ext w w' ∧ w1.heap.size ≤ w'.heap.size ∧ Blk w' r1 (sV (cho (B a) (B b) i).2 x) 28 ∧ Pg w' x (cho (B a) (B b) i).2.pages ∧ ∀ c, x.1 = some c → w1.heap.size ≤ c.block) (fun y => (2 - y.2.1).toNat)
    ⟨0, (none, 0, 0), by omega, rfl, he1, Nat.le_refl _, hb1, Pg.nil _, fun c hc => by cases hc⟩ ?_
  rintro _ w2 ⟨i, x, hi, rfl, he2, hz2, hb2, hp2, hx2⟩
  dsimp only
  by_cases hlt : i < 2
  · refine splitW_t (decide_eq_true (by omega)) (guard_i ⟨by omega, by omega, rfl⟩ ?_)
    have hstr : ∃ g : ByteArray, ((#[(.string a), (.string b)] : Array Value).getD (Int.toNat (i : Int)) undef) = .string g ∧ g.size ≤ 9223372036854775807 ∧ cho (B a) (B b) (i + 1) = cstepS (cho (B a) (B b) i) (i : Int) (getS (B g)) := by
      match i, hlt with
      | 0, _ => exact ⟨a, rfl, ha, rfl⟩
      | 1, _ => exact ⟨b, rfl, hb, rfl⟩
    obtain ⟨g, hg, hgs, hstep⟩ := hstr
    rw [hg]
    refine callW_of (sget_calls w2 g hgs) ?_
    rintro _ w3 ⟨y, rfl, hp3, he3, hy3⟩
    refine ⟨(sT (getS (B g)).1 y, (getS (B g)).2, ()), rfl, ?_⟩
    dsimp only
    refine boxedS (s := (getS (B g)).1) (x := y) rfl ?_
    intro r5 w4 hb5 he4 hr5
    have he24 := he3.trans he4
    have hb4 := hb2.ext he24
    have hp4 := hp2.ext he24
    have hpy := hp3.ext he4
    have hew := he2.trans he24
    have hz4 : w1.heap.size ≤ w4.heap.size := Nat.le_trans hz2 he24.size
    have next : IntKind.wrap .i64 ((i : Int) + 1) = ((i + 1 : Nat) : Int) := by rw [wrap_i64 (by omega) (by omega)]; omega
    have keep : ¬ ((getS (B g)).2 = 0 ∧ ((cho (B a) (B b) i).1 < 0 ∨ (getS (B g)).1.gen > (cho (B a) (B b) i).2.gen)) → cho (B a) (B b) (i + 1) = cho (B a) (B b) i := fun h => by rw [hstep, cstepS, if_neg h]
    have take : ((getS (B g)).2 = 0 ∧ ((cho (B a) (B b) i).1 < 0 ∨ (getS (B g)).1.gen > (cho (B a) (B b) i).2.gen)) → cho (B a) (B b) (i + 1) = ((i : Int), (getS (B g)).1) := fun h => by rw [hstep, cstepS, if_pos h]
    rw [next]
    have hstay : ∀ {w' : World}, Ext w4 w' → cho (B a) (B b) (i + 1) = cho (B a) (B b) i → ((∃ (k : Nat) (z : SLC), k ≤ 2 ∧ ((cho (B a) (B b) i).1, ((i + 1 : Nat) : Int), ()) = ((cho (B a) (B b) k).1, (k : Int), ()) ∧ Ext w w' ∧ w1.heap.size ≤ w'.heap.size ∧ Blk w' r1 (sV (cho (B a) (B b) k).2 z) 28 ∧ Pg w' z (cho (B a) (B b) k).2.pages ∧ ∀ c, z.1 = some c → w1.heap.size ≤ c.block) ∧ (2 - ((i + 1 : Nat) : Int)).toNat < (2 - (i : Int)).toNat) := by
      intro w' he' h
      exact ⟨⟨i + 1, x, by omega, by rw [h], hew.trans he', Nat.le_trans hz4 he'.size, by rw [h]; exact hb4.ext he', by rw [h]; exact hp4.ext he', hx2⟩, by omega⟩
    have htake : ∀ {w' : World}, Ext w4 w' → cho (B a) (B b) (i + 1) = ((i : Int), (getS (B g)).1) →
        (ldAW sLs (⟨r5, 0, none⟩ : Addr) fun (u : Int × Int × Int × Int × SLC × Unit) => guardW ((#[(.int .u64 u.1), (.int .i64 u.2.1), (.int .i64 u.2.2.1), (.int .u32 u.2.2.2.1), (.slice u.2.2.2.2.1.1 u.2.2.2.2.1.2.1 u.2.2.2.2.1.2.2)] : Array Value).size = 5) <| stAW (⟨r1, 0, none⟩ : Addr) [(.int .u64 u.1), (.int .i64 u.2.1), (.int .i64 u.2.2.1), (.int .u32 u.2.2.2.1), (.slice u.2.2.2.2.1.1 u.2.2.2.2.1.2.1 u.2.2.2.2.1.2.2)] fun w' =>
          ((∃ (k : Nat) (z : SLC), k ≤ 2 ∧ ((i : Int), ((i + 1 : Nat) : Int), ()) = ((cho (B a) (B b) k).1, (k : Int), ()) ∧ Ext w w' ∧ w1.heap.size ≤ w'.heap.size ∧ Blk w' r1 (sV (cho (B a) (B b) k).2 z) 28 ∧ Pg w' z (cho (B a) (B b) k).2.pages ∧ ∀ c, z.1 = some c → w1.heap.size ≤ c.block) ∧ (2 - ((i + 1 : Nat) : Int)).toNat < (2 - (i : Int)).toNat)) w' := by
      intro w' he' h
      refine boxA (ls := sLs) (sT (getS (B g)).1 y) (hb5.ext he') rfl (refill (vs := sV (getS (B g)).1 y) (hb4.ext he') rfl (sV_one _ _) rfl ?_)
      intro w6 hb6 hx6 hk6 hz6
      have he6 := hx6 w (hew.trans he') (by omega)
      refine ⟨⟨i + 1, y, by omega, by rw [h], he6, ?_, by rw [h]; exact hb6, ?_, fun c hc => Nat.le_trans hz2 (hy3 c hc)⟩, by omega⟩
      · rw [hz6]; exact Nat.le_trans hz4 he'.size
      · rw [h]
        exact (hpy.ext he').grown (grown_of_set (hew.trans he') he6 hk6 hz6) (fun c hc e => by injection e with e; have := hy3 c hc; omega)
    refine splitW_i (fun hz => ?_) (fun hz => ?_)
    · have hz := beq_iff_eq.1 hz
      refine splitW_i (fun hs => ?_) (fun hs => ?_)
      · have hs := of_decide_eq_true hs
        exact draw_i fun w5 he5 _ _ => htake he5 (take ⟨hz, .inl hs⟩)
      · have hs := of_decide_eq_false hs
        refine box0 ((getS (B g)).1.gen : Int) hb5 (by rfl) (box0 ((cho (B a) (B b) i).2.gen : Int) hb4 (by rfl) ?_)
        refine splitW_i (fun hq => ?_) (fun hq => ?_)
        · have hq := of_decide_eq_true hq
          exact draw_i fun w5 he5 _ _ => htake he5 (take ⟨hz, .inr (by omega)⟩)
        · have hq := of_decide_eq_false hq
          exact hstay (Ext.refl _) (keep (by rintro ⟨_, h | h⟩; exact hs h; omega))
    · have hz := beq_eq_false_iff_ne.1 hz
      exact hstay (Ext.refl _) (keep (fun h => hz h.1))
  · obtain rfl : i = 2 := by omega
    refine splitW_f (decide_eq_false (by omega)) ?_
    have hend := cho_end (B a) (B b)
    have hneg := cho_neg (B a) (B b)
    refine splitW_i (fun hs => ?_) (fun hs => ?_)
    · have hs := of_decide_eq_true hs
      rw [if_pos hs] at hend
      refine setS (s := sup0) (x := (none, 0, 0)) hb2 rfl rfl fun w' _ hx _ _ => ⟨(none, 0, 0), by rw [hend]; rfl, by rw [hend]; exact Pg.nil w', hx w he2 (by omega), fun c hc => by cases hc⟩
    · have hs := of_decide_eq_false hs
      rw [if_neg hs] at hend
      refine draw_i fun w3 he3 _ _ => ?_
      have hb3 := hb2.ext he3
      have hp3 := hp2.ext he3
      have he3 := he2.trans he3
      refine boxA (ls := sLs) (sT (cho (B a) (B b) 2).2 x) hb3 rfl (setS (s := (cho (B a) (B b) 2).2) (x := x) hb3 rfl rfl fun w' _ hx hk hz => ⟨x, by rw [hend]; rfl, ?_, hx w he3 (by omega), fun c hc => by have := hx2 c hc; have := he1.size; omega⟩)
      rw [hend]
      exact hp3.grown (grown_of_set he3 (hx w he3 (by omega)) hk hz) (fun c hc e => by injection e with e; have := hx2 c hc; omega)
theorem rchoose_calls (w : World) (a b : ByteArray) (ha : a.size ≤ 9223372036854775807) (hb : b.size ≤ 9223372036854775807) : Calls Try.prog 23 #[.string a, .string b] w (Ret (ChoRet w (B a) (B b))) := by
  apply calls23
  unfold S23
  refine new_i fun r1 w1 hb1 he1 hr1 _ => ?_
  have hb1 : Blk w1 r1 (sV sup0 (none, 0, 0)) 28 := hb1
  have h1lt := hb1.lt
  refine callW_of (rsget_calls w1 a ha) ?_
  rintro _ w2 ⟨x, rfl, hpx, he2, hfx⟩
  refine ⟨(sT (getS (B a)).1 x, (getS (B a)).2, ()), rfl, ?_⟩
  dsimp only
  refine boxedS (s := (getS (B a)).1) (x := x) rfl ?_
  intro r3 w3 hb3 he3 hr3
  have hpx := hpx.ext he3
  have he13 := he2.trans he3
  refine callW_of (rsget_calls w3 b hb) ?_
  rintro _ w4 ⟨y, rfl, hpy, he4, hfy⟩
  refine ⟨(sT (getS (B b)).1 y, (getS (B b)).2, ()), rfl, ?_⟩
  dsimp only
  refine boxedS (s := (getS (B b)).1) (x := y) rfl ?_
  intro r5 w5 hb5 he5 hr5
  have hpy := hpy.ext he5
  have he35 := he4.trans he5
  have hpx := hpx.ext he35
  have hb3 := hb3.ext he35
  have he15 := he13.trans he35
  have hb15 := hb1.ext he15
  have hew := he1.trans he15
  have s1 := he13.size
  have no : ∀ {w' : World}, Ext w5 w' → chooseS (B a) (B b) = (-1, sup0, 10) →
      (guardW ((#[(.int .u64 (0 : Int)), (.int .i64 (0 : Int)), (.int .i64 (0 : Int)), (.int .u32 (0 : Int)), (.slice none 0 0)] : Array Value).size = 5) <| stAW (⟨r1, 0, none⟩ : Addr) [(.int .u64 (0 : Int)), (.int .i64 (0 : Int)), (.int .i64 (0 : Int)), (.int .u32 (0 : Int)), (.slice none 0 0)] <| ldAW sLs (⟨r1, 0, none⟩ : Addr) fun (u : Int × Int × Int × Int × SLC × Unit) => fun w'' => ChoRet w (B a) (B b) (Value.tuple #[.int .i64 (-1), (.agg #[(.int .u64 u.1), (.int .i64 u.2.1), (.int .i64 u.2.2.1), (.int .u32 u.2.2.2.1), (.slice u.2.2.2.2.1.1 u.2.2.2.2.1.2.1 u.2.2.2.2.1.2.2)]), (.int .i64 10)]) w'') w' := fun he h =>
    setS (s := sup0) (x := (none, 0, 0)) (hb15.ext he) rfl rfl fun w' _ hx _ _ => ⟨(none, 0, 0), by rw [h]; rfl, by rw [h]; exact Pg.nil w', hx w (hew.trans he) (by omega), fun c hc => by cases hc⟩
  have yes : ∀ {w' : World} {r : Nat} {q : Sup} {z : SLC} {k : Int}, Ext w5 w' → Blk w5 r (sV q z) 28 → Pg w5 z q.pages → (∀ c, z.1 = some c → w1.heap.size ≤ c.block) → chooseS (B a) (B b) = (k, q, 0) →
      (ldAW sLs (⟨r, 0, none⟩ : Addr) fun (u : Int × Int × Int × Int × SLC × Unit) => guardW ((#[(.int .u64 u.1), (.int .i64 u.2.1), (.int .i64 u.2.2.1), (.int .u32 u.2.2.2.1), (.slice u.2.2.2.2.1.1 u.2.2.2.2.1.2.1 u.2.2.2.2.1.2.2)] : Array Value).size = 5) <| stAW (⟨r1, 0, none⟩ : Addr) [(.int .u64 u.1), (.int .i64 u.2.1), (.int .i64 u.2.2.1), (.int .u32 u.2.2.2.1), (.slice u.2.2.2.2.1.1 u.2.2.2.2.1.2.1 u.2.2.2.2.1.2.2)] <|
        ldAW sLs (⟨r1, 0, none⟩ : Addr) fun (u : Int × Int × Int × Int × SLC × Unit) => fun w'' => ChoRet w (B a) (B b) (Value.tuple #[.int .i64 k, (.agg #[(.int .u64 u.1), (.int .i64 u.2.1), (.int .i64 u.2.2.1), (.int .u32 u.2.2.2.1), (.slice u.2.2.2.2.1.1 u.2.2.2.2.1.2.1 u.2.2.2.2.1.2.2)]), (.int .i64 0)]) w'') w' := by
    intro w' r q z k he hb hp hz h
    refine boxA (ls := sLs) (sT q z) (hb.ext he) rfl (setS (s := q) (x := z) (hb15.ext he) rfl rfl fun w6 _ hx hk hs => ⟨z, by rw [h]; rfl, ?_, hx w (hew.trans he) (by omega), fun c hc => by have := hz c hc; have := he1.size; omega⟩)
    rw [h]
    exact (hp.ext he).grown (grown_of_set (hew.trans he) (hx w (hew.trans he) (by omega)) hk hs) (fun c hc e => by injection e with e; have := hz c hc; omega)
  have fy : ∀ c, y.1 = some c → w1.heap.size ≤ c.block := fun c hc => Nat.le_trans s1 (hfy c hc)
  unfold chooseS at no yes
  refine joinW_s (fun _ w' => Ext w5 w' ∧ (getS (B a)).2 = 0 ∧ ¬ ((getS (B b)).2 = 0 ∧ (getS (B b)).1.gen > (getS (B a)).1.gen)) ?_ (fun J hJ => ?_)
  · rintro _ w6 ⟨he6, ga, gb⟩
    refine draw_i fun w7 he7 _ _ => yes (he6.trans he7) hb3 hpx hfx ?_
    rw [if_neg (fun h => h.1 ga), if_neg (by rintro (h | h); exact h ga; exact gb h)]
  refine joinW_s (fun (z : Bool × Unit) w' => Ext w5 w' ∧ z.1 = decide ((getS (B a)).2 ≠ 0 ∧ (getS (B b)).2 ≠ 0)) ?_ (fun J8 hJ8 => ?_)
  · rintro ⟨z, _⟩ w6 ⟨he6, hz⟩
    dsimp only at hz ⊢
    subst hz
    refine splitW_i (fun hz => ?_) (fun hz => ?_)
    · exact no he6 (by rw [if_pos (of_decide_eq_true hz)])
    have hz := of_decide_eq_false hz
    refine splitW_i (fun hq => ?_) (fun hq => ?_)
    · have hq := bne_iff_ne.1 hq
      refine draw_i fun w7 he7 _ _ => yes (he6.trans he7) hb5 hpy fy ?_
      rw [if_neg hz, if_pos (.inl hq)]
    have hq := bne_eq_false_iff_eq.1 hq
    refine splitW_i (fun hv => ?_) (fun hv => ?_)
    · have hv := beq_iff_eq.1 hv
      refine box0 ((getS (B b)).1.gen : Int) (hb5.ext he6) (by rfl) (box0 ((getS (B a)).1.gen : Int) (hb3.ext he6) (by rfl) ?_)
      refine splitW_i (fun hg => ?_) (fun hg => ?_)
      · have hg := of_decide_eq_true hg
        refine draw_i fun w7 he7 _ _ => yes (he6.trans he7) hb5 hpy fy ?_
        rw [if_neg hz, if_pos (.inr ⟨hv, by omega⟩)]
      · have hg := of_decide_eq_false hg
        exact hJ _ _ ⟨he6, hq, fun h => by have := h.2; omega⟩
    · have hv := beq_eq_false_iff_ne.1 hv
      exact hJ _ _ ⟨he6, hq, fun h => hv h.1⟩
  refine splitW_i (fun hz => ?_) (fun hz => ?_)
  · have hz := bne_iff_ne.1 hz
    refine hJ8 _ _ ⟨Ext.refl _, ?_⟩
    dsimp only
    by_cases h : (getS (B b)).2 = 0
    · rw [h]; simp
    · rw [decide_eq_true ⟨hz, h⟩]; exact bne_iff_ne.2 h
  · have hz := bne_eq_false_iff_eq.1 hz
    refine hJ8 _ _ ⟨Ext.refl _, ?_⟩
    dsimp only
    rw [decide_eq_false (fun h => h.1 hz)]
end Go.Proofs.Ytiiemgndnpflbaa.V
