/- Contracts of rows, of what is taken and picked (schema), and of the document's answer. -/
import Derived.Test.YtiihdgodghaobaaKSchema2
import Derived.Test.YtiihdgodghaobaaKCell
set_option linter.unusedVariables false
set_option linter.unusedSimpArgs false
namespace Go.Proofs.Ytiihdgodghaobaa.V
open Go Go.Proofs Go.RowKit

def col0 : Col := (ByteArray.empty, 0, false)
def colT (c : Col) : ByteArray × Int × Bool × Unit := (c.1, c.2.1, c.2.2, ())
theorem getD_of_lt {α : Type} {xs : List α} {i : Nat} {d : α} (h : i < xs.length) : xs.getD i d = xs[i] := by simp [h]
theorem any_take_false {cs : List Col} {i : Nat} {s : ByteArray} (h : ∀ k, k < i → k < cs.length → B (cs.getD k col0).1 ≠ B s) : ((cs.take i).any fun d => decide (B d.1 = B s)) = false := by
  rw [List.any_eq_false]
  intro d hd
  obtain ⟨k, hk, rfl⟩ := List.mem_iff_getElem.1 hd
  rw [List.length_take] at hk
  have := h k (by omega) (by omega)
  rw [getD_of_lt (by omega)] at this
  simpa using this
theorem rcheck_calls {w : World} {A : Option Addr} {n c : Nat} {cs : List Col} (h : Sli colE w A n cs) :
    Calls Try.prog 34 #[.slice A n c] w (Ret fun v w' => v = .int .i64 (checkC cs) ∧ Ext w w') := by
  apply calls34
  unfold S34 checkC
  have hl := h.len
  refine splitW_i (fun h1 => ?_) (fun h1 => ?_)
  · have h1 := of_decide_eq_true h1
    rw [if_pos (by omega)]
    exact ⟨rfl, Ext.refl w⟩
  refine splitW_i (fun h2 => ?_) (fun h2 => ?_)
  · have h2 := of_decide_eq_true h2
    rw [if_pos (by omega)]
    exact ⟨rfl, Ext.refl w⟩
  have h1 := of_decide_eq_false h1
  have h2 := of_decide_eq_false h2
  rw [if_neg (by omega)]
  refine loopW_i (fun x w' => Ext w w' ∧ ∃ i : Nat, i ≤ n ∧ x = ((i : Int), ()) ∧ checkFrom [] cs = checkFrom (cs.take i) (cs.drop i)) (fun x => (n - x.1).toNat) ⟨Ext.refl w, 0, by omega, rfl, rfl⟩ ?_
  rintro _ w' ⟨he, i, hi, rfl, hf⟩
  dsimp only
  by_cases hlt : i < n
  · refine splitW_t (decide_eq_true (by omega)) ?_
    have hg : cs.getD i col0 = cs[i] := getD_of_lt (by omega)
    have hdrop : cs.drop i = cs.getD i col0 :: cs.drop (i + 1) := by rw [hg]; exact List.drop_eq_getElem_cons (by omega)
    have htake : cs.take (i + 1) = cs.take i ++ [cs.getD i col0] := by rw [hg]; exact List.take_succ_eq_append_getElem (by omega)
    rw [hdrop, checkFrom] at hf
    refine idx_f0 (l := .str) (fun c => c.1) col0 (h.ext he) (fun _ => rfl) rfl (by omega) (by omega) ?_
    rw [Int.toNat_natCast]
    refine callW_of (rname_calls w' _) ?_
    rintro _ w1 ⟨rfl, he1⟩
    refine ⟨_, rfl, ?_⟩
    have he1 := he.trans he1
    refine splitW_i (fun hn => ?_) (fun hn => ?_)
    · have hn : nameE (B (cs.getD i col0).1) ≠ 0 := by simpa using hn
      rw [hf, if_pos hn]
      exact ⟨rfl, he1⟩
    have hn : nameE (B (cs.getD i col0).1) = 0 := by simpa using hn
    rw [if_neg (fun hh => hh hn)] at hf
    refine idx_f (l := .int .i64) 1 (fun c => c.2.1) col0 (h.ext he1) (fun _ => rfl) rfl (by omega) (by omega) ?_
    rw [Int.toNat_natCast]
    refine splitW_i (fun hk => ?_) (fun hk => ?_)
    · have hk := of_decide_eq_true hk
      rw [hf, if_pos (.inl hk)]
      exact ⟨rfl, he1⟩
    have hk := of_decide_eq_false hk
    refine idx_f (l := .int .i64) 1 (fun c => c.2.1) col0 (h.ext he1) (fun _ => rfl) rfl (by omega) (by omega) ?_
    rw [Int.toNat_natCast]
    refine splitW_i (fun hk2 => ?_) (fun hk2 => ?_)
    · have hk2 := of_decide_eq_true hk2
      rw [hf, if_pos (.inr (.inl hk2))]
      exact ⟨rfl, he1⟩
    have hk2 := of_decide_eq_false hk2
    refine loopW_i (fun x w' => Ext w w' ∧ ∃ k : Nat, k ≤ i ∧ x = ((k : Int), ()) ∧ ∀ j, j < k → j < cs.length → B (cs.getD j col0).1 ≠ B (cs.getD i col0).1) (fun x => (i - x.1).toNat) ⟨he1, 0, by omega, rfl, fun j hj => by omega⟩ ?_
    rintro _ w2 ⟨he2, k, hki, rfl, hall⟩
    dsimp only
    by_cases hkl : k < i
    · refine splitW_t (decide_eq_true (by omega)) ?_
      refine draw_i fun w3 he3 _ _ => ?_
      have he3 := he2.trans he3
      refine idx_f0 (l := .str) (fun c => c.1) col0 (h.ext he3) (fun _ => rfl) rfl (by omega) (by omega) ?_
      refine idx_f0 (l := .str) (fun c => c.1) col0 (h.ext he3) (fun _ => rfl) rfl (by omega) (by omega) ?_
      rw [Int.toNat_natCast, Int.toNat_natCast, str_beq]
      refine splitW_i (fun hd => ?_) (fun hd => ?_)
      · have hd := of_decide_eq_true hd
        rw [hf, if_pos]
        · exact ⟨rfl, he3⟩
        · refine .inr (.inr (List.any_eq_true.2 ⟨cs.getD k col0, ?_, decide_eq_true hd⟩))
          rw [getD_of_lt (show k < cs.length by omega)]
          exact List.mem_iff_getElem.2 ⟨k, by simp; omega, by simp⟩
      · have hd := of_decide_eq_false hd
        rw [wrap_i64 (by omega) (by omega)]
        refine ⟨⟨he3, k + 1, by omega, rfl, fun j hj hjl => ?_⟩, by omega⟩
        by_cases hjk : j = k
        · subst hjk; exact hd
        · exact hall j (by omega) hjl
    · obtain rfl : k = i := by omega
      refine splitW_f (decide_eq_false (by omega)) ?_
      rw [wrap_i64 (by omega) (by omega)]
      rw [if_neg (by
        rintro (h3 | h3 | h3)
        · exact hk h3
        · exact hk2 h3
        · rw [any_take_false hall] at h3; cases h3)] at hf
      exact ⟨⟨he2, k + 1, by omega, rfl, by rw [htake]; exact hf⟩, by omega⟩
  · obtain rfl : i = n := by omega
    refine splitW_f (decide_eq_false (by omega)) ?_
    rw [List.drop_of_length_le (by omega)] at hf
    exact ⟨by rw [hf]; rfl, he⟩
theorem rfind_calls {w : World} {A : Option Addr} {n c : Nat} {cs : List Col} {s : ByteArray} (h : Sli colE w A n cs) :
    Calls Try.prog 29 #[.slice A n c, .string s] w (Ret fun v w' => v = .tuple #[.int .i64 (findR s cs).1, .int .i64 (findR s cs).2] ∧ w' = w) := by
  apply calls29
  unfold S29
  have hl := h.len
  have hle := h.2.1
  refine loopW_i (fun x w' => w' = w ∧ ∃ i : Nat, i ≤ n ∧ x = ((i : Int), ()) ∧ i ≤ findI s cs) (fun x => (n - x.1).toNat) ⟨rfl, 0, by omega, rfl, by omega⟩ ?_
  rintro _ w1 ⟨hw, i, hi, rfl, hf⟩
  subst hw
  dsimp only
  by_cases hlt : i < n
  · refine splitW_t (decide_eq_true (by omega)) ?_
    refine idx_f0 (l := .str) (fun c => c.1) col0 h (fun _ => rfl) rfl (by omega) (by omega) ?_
    rw [Int.toNat_natCast, str_beq, getD_of_lt (show i < cs.length by omega)]
    refine splitW_i (fun hd => ?_) (fun hd => ?_)
    · have e : findI s cs = i := by
        refine Nat.le_antisymm ?_ hf
        refine Nat.le_of_not_lt fun hlt2 => ?_
        have := List.not_of_lt_findIdx hlt2
        rw [hd] at this
        cases this
      have e2 : findR s cs = ((i : Int), 0) := by
        unfold findR
        rw [e, if_pos (by omega)]
      rw [e2]
      exact ⟨rfl, rfl⟩
    · rw [wrap_i64 (by omega) (by omega)]
      refine ⟨⟨rfl, i + 1, by omega, rfl, ?_⟩, by omega⟩
      refine Nat.lt_of_le_of_ne hf fun e => ?_
      have := List.findIdx_getElem (p := fun c : Col => decide (B c.1 = B s)) (xs := cs) (w := by show findI s cs < cs.length; omega)
      have e3 : cs[List.findIdx (fun c : Col => decide (B c.1 = B s)) cs]'(by show findI s cs < cs.length; omega) = cs[i] := by
        congr 1
        exact e.symm
      rw [e3] at this
      rw [this] at hd
      cases hd
  · obtain rfl : i = n := by omega
    refine splitW_f (decide_eq_false (by omega)) ⟨?_, rfl⟩
    have e2 : findR s cs = (0, 172) := by
      unfold findR
      rw [if_neg (by omega)]
    rw [e2]
/-- The columns taken. -/
def okP (n : Nat) (p : Int) : Prop := 0 ≤ p ∧ p < (n : Int)
instance (n : Nat) (p : Int) : Decidable (okP n p) := inferInstanceAs (Decidable (_ ∧ _))
def takeC (cs : List Col) (ps : List Int) : List Col := ps.map fun p => cs.getD p.toNat col0
def takeR (cs : List Col) (ps : List Int) : List Col × Int := if ∀ p ∈ ps, okP cs.length p then (takeC cs ps, 0) else ([], 172)
theorem getD_mem {α : Type} {xs : List α} {i : Nat} {d : α} (h : i < xs.length) : xs.getD i d ∈ xs := by
  rw [getD_of_lt h]
  exact List.getElem_mem h
theorem take_calls {w : World} {A A2 : Option Addr} {n c n2 c2 : Nat} {cs : List Col} {ps : List Int} (h : Sli colE w A n cs) (h2 : Sli intE w A2 n2 ps) (hn : n2 ≤ 1000) :
    Calls Try.prog 20 #[.slice A n c, .slice A2 n2 c2] w (Ret fun v w' => ∃ x : Option Addr × Nat × Nat, v = .tuple #[.slice x.1 x.2.1 x.2.2, .int .i64 (takeR cs ps).2] ∧ Owni colE 31 w' w.heap.size x.1 x.2.1 x.2.2 (takeR cs ps).1 ∧ Ext w w') := by
  apply calls20
  unfold S20
  have hl := h.len
  have hl2 := h2.len
  refine loopW_i (fun x w' => Ext w w' ∧ ∃ (i : Nat) (A' : Option Addr) (c' : Nat), i ≤ n2 ∧ x = ((A', i, c'), (i : Int), ()) ∧ Owni colE 31 w' w.heap.size A' i c' (takeC cs (ps.take i)) ∧ ∀ p ∈ ps.take i, okP cs.length p) (fun x => (n2 - x.2.1).toNat) ⟨Ext.refl w, 0, none, 0, by omega, rfl, Owni.nil _ _ _, fun p hp => by simp at hp⟩ ?_
  rintro _ w1 ⟨he, i, A', c', hi, rfl, ho, hall⟩
  dsimp only
  by_cases hlt : i < n2
  · refine splitW_t (decide_eq_true (by omega)) ?_
    have hmem : ps.getD i 0 ∈ ps := getD_mem (by omega)
    have htake : ps.take (i + 1) = ps.take i ++ [ps.getD i 0] := by rw [getD_of_lt (show i < ps.length by omega)]; exact List.take_succ_eq_append_getElem (by omega)
    have bad : ¬ okP cs.length (ps.getD i 0) → ∃ x : Option Addr × Nat × Nat, Value.tuple #[.slice none 0 0, .int .i64 172] = .tuple #[.slice x.1 x.2.1 x.2.2, .int .i64 (takeR cs ps).2] ∧ Owni colE 31 w1 w.heap.size x.1 x.2.1 x.2.2 (takeR cs ps).1 ∧ Ext w w1 := fun hb => by
      have e : takeR cs ps = ([], 172) := by unfold takeR; rw [if_neg (fun hh => hb (hh _ hmem))]
      rw [e]
      exact ⟨(none, 0, 0), rfl, Owni.nil _ _ _, he⟩
    refine idx_int (h2.ext he) (by omega) (by omega) ?_
    rw [Int.toNat_natCast]
    generalize ps.getD i 0 = p at *
    refine splitW_i (fun hp => ?_) (fun hp => ?_)
    · have hp := of_decide_eq_true hp
      exact bad (fun hh => by unfold okP at hh; omega)
    have hp := of_decide_eq_false hp

    refine splitW_i (fun hp2 => ?_) (fun hp2 => ?_)
    · have hp2 := of_decide_eq_true hp2
      exact bad (fun hh => by unfold okP at hh; omega)
    have hp2 := of_decide_eq_false hp2

    refine idx_A (ls := [.str, .int .i64, .bool]) colT col0 (h.ext he) (fun _ => rfl) rfl (by omega) (by omega) ?_
    refine append_newi (E := colE) (ys := [cs.getD p.toNat col0]) (by rfl) rfl elem_col ho he.size (by omega) (by omega) ?_
    intro A3 c3 w3 ho3 hg3
    dsimp only
    rw [wrap_i64 (by omega) (by omega)]
    refine ⟨⟨he.grown hg3.grown ho.row, i + 1, A3, c3, by omega, rfl, by rw [htake]; unfold takeC; rw [List.map_append]; exact ho3, fun q hq => ?_⟩, by omega⟩
    rw [htake, List.mem_append, List.mem_singleton] at hq
    rcases hq with hq | rfl
    · exact hall q hq
    · exact ⟨by omega, by omega⟩
  · obtain rfl : i = n2 := by omega
    refine splitW_f (decide_eq_false (by omega)) ?_
    rw [List.take_of_length_le (by omega)] at ho hall
    have e : takeR cs ps = (takeC cs ps, 0) := by unfold takeR; rw [if_pos hall]
    rw [e]
    exact ⟨(A', i, c'), rfl, ho, he⟩
theorem rtake_calls {w : World} {A A2 : Option Addr} {n c n2 c2 : Nat} {cs : List Col} {ps : List Int} (h : Sli colE w A n cs) (h2 : Sli intE w A2 n2 ps) (hn : n2 ≤ 1000) :
    Calls Try.prog 30 #[.slice A n c, .slice A2 n2 c2] w (Ret fun v w' => ∃ x : Option Addr × Nat × Nat, v = .tuple #[.slice x.1 x.2.1 x.2.2, .int .i64 (takeR cs ps).2] ∧ Owni colE 31 w' w.heap.size x.1 x.2.1 x.2.2 (takeR cs ps).1 ∧ Ext w w') := by
  apply calls30
  unfold S30
  have hl := h.len
  have hl2 := h2.len
  refine loopW_i (fun x w' => Ext w w' ∧ ∃ (i : Nat) (A' : Option Addr) (c' : Nat), i ≤ n2 ∧ x = ((A', i, c'), (i : Int), ()) ∧ Owni colE 31 w' w.heap.size A' i c' (takeC cs (ps.take i)) ∧ ∀ p ∈ ps.take i, okP cs.length p) (fun x => (n2 - x.2.1).toNat) ⟨Ext.refl w, 0, none, 0, by omega, rfl, Owni.nil _ _ _, fun p hp => by simp at hp⟩ ?_
  rintro _ w1 ⟨he, i, A', c', hi, rfl, ho, hall⟩
  dsimp only
  by_cases hlt : i < n2
  · refine splitW_t (decide_eq_true (by omega)) ?_
    have hmem : ps.getD i 0 ∈ ps := getD_mem (by omega)
    have htake : ps.take (i + 1) = ps.take i ++ [ps.getD i 0] := by rw [getD_of_lt (show i < ps.length by omega)]; exact List.take_succ_eq_append_getElem (by omega)
    have bad : ¬ okP cs.length (ps.getD i 0) → ∃ x : Option Addr × Nat × Nat, Value.tuple #[.slice none 0 0, .int .i64 172] = .tuple #[.slice x.1 x.2.1 x.2.2, .int .i64 (takeR cs ps).2] ∧ Owni colE 31 w1 w.heap.size x.1 x.2.1 x.2.2 (takeR cs ps).1 ∧ Ext w w1 := fun hb => by
      have e : takeR cs ps = ([], 172) := by unfold takeR; rw [if_neg (fun hh => hb (hh _ hmem))]
      rw [e]
      exact ⟨(none, 0, 0), rfl, Owni.nil _ _ _, he⟩
    refine idx_int (h2.ext he) (by omega) (by omega) ?_
    rw [Int.toNat_natCast]
    generalize hpe : ps.getD i 0 = p at *
    refine splitW_i (fun hp => ?_) (fun hp => ?_)
    · have hp := of_decide_eq_true hp
      exact bad (fun hh => by unfold okP at hh; omega)
    have hp := of_decide_eq_false hp
    refine idx_int (h2.ext he) (by omega) (by omega) ?_
    rw [Int.toNat_natCast, hpe]
    refine splitW_i (fun hp2 => ?_) (fun hp2 => ?_)
    · have hp2 := of_decide_eq_true hp2
      exact bad (fun hh => by unfold okP at hh; omega)
    have hp2 := of_decide_eq_false hp2
    refine idx_int (h2.ext he) (by omega) (by omega) ?_
    rw [Int.toNat_natCast, hpe]
    refine idx_A (ls := [.str, .int .i64, .bool]) colT col0 (h.ext he) (fun _ => rfl) rfl (by omega) (by omega) ?_
    refine append_newi (E := colE) (ys := [cs.getD p.toNat col0]) (by rfl) rfl elem_col ho he.size (by omega) (by omega) ?_
    intro A3 c3 w3 ho3 hg3
    dsimp only
    rw [wrap_i64 (by omega) (by omega)]
    refine ⟨⟨he.grown hg3.grown ho.row, i + 1, A3, c3, by omega, rfl, by rw [htake]; unfold takeC; rw [List.map_append]; exact ho3, fun q hq => ?_⟩, by omega⟩
    rw [htake, List.mem_append, List.mem_singleton] at hq
    rcases hq with hq | rfl
    · exact hall q hq
    · exact ⟨by omega, by omega⟩
  · obtain rfl : i = n2 := by omega
    refine splitW_f (decide_eq_false (by omega)) ?_
    rw [List.take_of_length_le (by omega)] at ho hall
    have e : takeR cs ps = (takeC cs ps, 0) := by unfold takeR; rw [if_pos hall]
    rw [e]
    exact ⟨(A', i, c'), rfl, ho, he⟩
/-- The cells picked. -/
def pickC (vs : List Cell) (p : Int) : Cell := if okP vs.length p then vs.getD p.toNat cell0 else cell0
def pickR (vs : List Cell) (ps : List Int) : List Cell := ps.map (pickC vs)
theorem pickc_calls {w : World} {A A2 : Option Addr} {n c n2 c2 : Nat} {vs : List Cell} {ps : List Int} (h : Sli cellE w A n vs) (h2 : Sli intE w A2 n2 ps) (hn : n2 ≤ 1000) :
    Calls Try.prog 21 #[.slice A n c, .slice A2 n2 c2] w (Ret fun v w' => ∃ x : Option Addr × Nat × Nat, v = .slice x.1 x.2.1 x.2.2 ∧ Owni cellE 44 w' w.heap.size x.1 x.2.1 x.2.2 (pickR vs ps) ∧ Ext w w') := by
  apply calls21
  unfold S21
  have hl := h.len
  have hl2 := h2.len
  refine loopW_i (fun x w' => Ext w w' ∧ ∃ (i : Nat) (A' : Option Addr) (c' : Nat), i ≤ n2 ∧ x = ((A', i, c'), (i : Int), ()) ∧ Owni cellE 44 w' w.heap.size A' i c' (pickR vs (ps.take i))) (fun x => (n2 - x.2.1).toNat) ⟨Ext.refl w, 0, none, 0, by omega, rfl, Owni.nil _ _ _⟩ ?_
  rintro _ w1 ⟨he, i, A', c', hi, rfl, ho⟩
  dsimp only
  by_cases hlt : i < n2
  · refine splitW_t (decide_eq_true (by omega)) ?_
    have htake : ps.take (i + 1) = ps.take i ++ [ps.getD i 0] := by rw [getD_of_lt (show i < ps.length by omega)]; exact List.take_succ_eq_append_getElem (by omega)
    have hr1 := he.size
    have hro := ho.row_lt
    have fin : ∀ {w2 : World} {r : Nat} {q : Cell} {I : ((Option Addr × Nat × Nat) × Int × Unit) → WP}, Ext w1 w2 → q = pickC vs (ps.getD i 0) → Blk w2 r (cellE.f q) 44 →
        (∀ A3 c3 w3, Ext w w3 → Owni cellE 44 w3 w.heap.size A3 (i + 1) c3 (pickR vs (ps.take (i + 1))) → I ((A3, i + 1, c3), ((i + 1 : Nat) : Int), ()) w3) →
        (ldAW [(.int .i64), (.int .i64), .str] (⟨r, 0, none⟩ : Addr) fun (u8 : (Int × Int × ByteArray × Unit)) =>
          newW (.cells #[(.int .i64 u8.1), (.int .i64 u8.2.1), (.string u8.2.2.1)] 44) fun (r9 : Nat) =>
          runW Try.prog (Builtin.append_ #[40, 40] 40 #[(.slice A' i c'), (.slice (some (⟨r9, 0, none⟩ : Addr)) 1 1)]) .slc fun (u10 : (Option Addr × Nat × Nat)) => I ((u10.1, u10.2.1, u10.2.2), (IntKind.wrap .i64 ((i : Int) + (1 : Int))), ())) w2 := by
      intro w2 r q I he2 hq hb hI
      refine boxA (ls := [.int .i64, .int .i64, .str]) (cT q) hb rfl ?_
      refine append_newi (E := cellE) (ys := [q]) (by rfl) rfl elem_cell (ho.ext he2) (Nat.le_trans he.size he2.size) (by omega) (by omega) ?_
      intro A3 c3 w3 ho3 hg3
      rw [wrap_i64 (by omega) (by omega)]
      refine hI A3 c3 w3 ((he.trans he2).grown hg3.grown ho.row) ?_
      rw [htake]
      unfold pickR
      rw [List.map_append, List.map_singleton, ← hq]
      exact ho3
    have inv : ∀ A3 c3 w3, Ext w w3 → Owni cellE 44 w3 w.heap.size A3 (i + 1) c3 (pickR vs (ps.take (i + 1))) → (fun (x : (Option Addr × Nat × Nat) × Int × Unit) w' => (Ext w w' ∧ ∃ (i : Nat) (A' : Option Addr) (c' : Nat), i ≤ n2 ∧ x = ((A', i, c'), (i : Int), ()) ∧ Owni cellE 44 w' w.heap.size A' i c' (pickR vs (ps.take i))) ∧ (n2 - x.2.1).toNat < (n2 - (i : Int)).toNat) ((A3, i + 1, c3), ((i + 1 : Nat) : Int), ()) w3 := fun A3 c3 w3 a b => ⟨⟨a, i + 1, A3, c3, by omega, rfl, b⟩, by dsimp only; omega⟩
    refine idx_int (h2.ext he) (by omega) (by omega) ?_
    rw [Int.toNat_natCast]
    refine new_i fun r w2 hb he2 hr _ => ?_
    refine refill (vs := [(.int .i64 (0 : Int)), (.int .i64 (0 : Int)), (.string ByteArray.empty)]) hb rfl (cellE.one cell0) (by rfl) ?_
    intro w3 hb3 hx3 _ _
    have he3 := hx3 w1 he2 (by omega)
    generalize hp : ps.getD i 0 = p at *
    refine splitW_i (fun h0 => ?_) (fun h0 => ?_)
    · have h0 := of_decide_eq_true h0
      refine splitW_i (fun h1 => ?_) (fun h1 => ?_)
      · have h1 := of_decide_eq_true h1
        refine idx_A (ls := [.int .i64, .int .i64, .str]) cT cell0 ((h.ext he).ext he3) (fun _ => rfl) rfl (by omega) (by omega) ?_
        refine refill (vs := cellE.f (vs.getD p.toNat cell0)) hb3 rfl (cellE.one _) (by rfl) ?_
        intro w4 hb4 hx4 _ _
        refine fin (I := (fun (x : (Option Addr × Nat × Nat) × Int × Unit) w' => (Ext w w' ∧ ∃ (i : Nat) (A' : Option Addr) (c' : Nat), i ≤ n2 ∧ x = ((A', i, c'), (i : Int), ()) ∧ Owni cellE 44 w' w.heap.size A' i c' (pickR vs (ps.take i))) ∧ (n2 - x.2.1).toNat < (n2 - (i : Int)).toNat)) (hx4 w1 he3 (by omega)) ?_ hb4 inv
        unfold pickC
        rw [if_pos ⟨by omega, by omega⟩]
      · have h1 := of_decide_eq_false h1
        refine fin (I := (fun (x : (Option Addr × Nat × Nat) × Int × Unit) w' => (Ext w w' ∧ ∃ (i : Nat) (A' : Option Addr) (c' : Nat), i ≤ n2 ∧ x = ((A', i, c'), (i : Int), ()) ∧ Owni cellE 44 w' w.heap.size A' i c' (pickR vs (ps.take i))) ∧ (n2 - x.2.1).toNat < (n2 - (i : Int)).toNat)) (q := cell0) he3 ?_ hb3 inv
        unfold pickC
        rw [if_neg (fun hh => by unfold okP at hh; omega)]
    · have h0 := of_decide_eq_false h0
      refine fin (I := (fun (x : (Option Addr × Nat × Nat) × Int × Unit) w' => (Ext w w' ∧ ∃ (i : Nat) (A' : Option Addr) (c' : Nat), i ≤ n2 ∧ x = ((A', i, c'), (i : Int), ()) ∧ Owni cellE 44 w' w.heap.size A' i c' (pickR vs (ps.take i))) ∧ (n2 - x.2.1).toNat < (n2 - (i : Int)).toNat)) (q := cell0) he3 ?_ hb3 inv
      unfold pickC
      rw [if_neg (fun hh => by unfold okP at hh; omega)]

  · obtain rfl : i = n2 := by omega
    refine splitW_f (decide_eq_false (by omega)) ?_
    rw [List.take_of_length_le (by omega)] at ho
    exact ⟨(A', i, c'), rfl, ho, he⟩
theorem rpick_calls {w : World} {A A2 : Option Addr} {n c n2 c2 : Nat} {vs : List Cell} {ps : List Int} (h : Sli cellE w A n vs) (h2 : Sli intE w A2 n2 ps) (hn : n2 ≤ 1000) :
    Calls Try.prog 36 #[.slice A n c, .slice A2 n2 c2] w (Ret fun v w' => ∃ x : Option Addr × Nat × Nat, v = .slice x.1 x.2.1 x.2.2 ∧ Owni cellE 44 w' w.heap.size x.1 x.2.1 x.2.2 (pickR vs ps) ∧ Ext w w') := by
  apply calls36
  unfold S36
  have hl := h.len
  have hl2 := h2.len
  refine loopW_i (fun x w' => Ext w w' ∧ ∃ (i : Nat) (A' : Option Addr) (c' : Nat), i ≤ n2 ∧ x = ((A', i, c'), (i : Int), ()) ∧ Owni cellE 44 w' w.heap.size A' i c' (pickR vs (ps.take i))) (fun x => (n2 - x.2.1).toNat) ⟨Ext.refl w, 0, none, 0, by omega, rfl, Owni.nil _ _ _⟩ ?_
  rintro _ w1 ⟨he, i, A', c', hi, rfl, ho⟩
  dsimp only
  by_cases hlt : i < n2
  · refine splitW_t (decide_eq_true (by omega)) ?_
    have htake : ps.take (i + 1) = ps.take i ++ [ps.getD i 0] := by rw [getD_of_lt (show i < ps.length by omega)]; exact List.take_succ_eq_append_getElem (by omega)
    have hr1 := he.size
    have hro := ho.row_lt
    have fin : ∀ {w2 : World} {r : Nat} {q : Cell} {I : ((Option Addr × Nat × Nat) × Int × Unit) → WP}, Ext w1 w2 → q = pickC vs (ps.getD i 0) → Blk w2 r (cellE.f q) 44 →
        (∀ A3 c3 w3, Ext w w3 → Owni cellE 44 w3 w.heap.size A3 (i + 1) c3 (pickR vs (ps.take (i + 1))) → I ((A3, i + 1, c3), ((i + 1 : Nat) : Int), ()) w3) →
        (ldAW [(.int .i64), (.int .i64), .str] (⟨r, 0, none⟩ : Addr) fun (u8 : (Int × Int × ByteArray × Unit)) =>
          newW (.cells #[(.int .i64 u8.1), (.int .i64 u8.2.1), (.string u8.2.2.1)] 44) fun (r9 : Nat) =>
          runW Try.prog (Builtin.append_ #[40, 40] 40 #[(.slice A' i c'), (.slice (some (⟨r9, 0, none⟩ : Addr)) 1 1)]) .slc fun (u10 : (Option Addr × Nat × Nat)) => I ((u10.1, u10.2.1, u10.2.2), (IntKind.wrap .i64 ((i : Int) + (1 : Int))), ())) w2 := by
      intro w2 r q I he2 hq hb hI
      refine boxA (ls := [.int .i64, .int .i64, .str]) (cT q) hb rfl ?_
      refine append_newi (E := cellE) (ys := [q]) (by rfl) rfl elem_cell (ho.ext he2) (Nat.le_trans he.size he2.size) (by omega) (by omega) ?_
      intro A3 c3 w3 ho3 hg3
      rw [wrap_i64 (by omega) (by omega)]
      refine hI A3 c3 w3 ((he.trans he2).grown hg3.grown ho.row) ?_
      rw [htake]
      unfold pickR
      rw [List.map_append, List.map_singleton, ← hq]
      exact ho3
    have inv : ∀ A3 c3 w3, Ext w w3 → Owni cellE 44 w3 w.heap.size A3 (i + 1) c3 (pickR vs (ps.take (i + 1))) → (fun (x : (Option Addr × Nat × Nat) × Int × Unit) w' => (Ext w w' ∧ ∃ (i : Nat) (A' : Option Addr) (c' : Nat), i ≤ n2 ∧ x = ((A', i, c'), (i : Int), ()) ∧ Owni cellE 44 w' w.heap.size A' i c' (pickR vs (ps.take i))) ∧ (n2 - x.2.1).toNat < (n2 - (i : Int)).toNat) ((A3, i + 1, c3), ((i + 1 : Nat) : Int), ()) w3 := fun A3 c3 w3 a b => ⟨⟨a, i + 1, A3, c3, by omega, rfl, b⟩, by dsimp only; omega⟩
    refine new_i fun r w2 hb he2 hr _ => ?_
    refine refill (vs := [(.int .i64 (0 : Int)), (.int .i64 (0 : Int)), (.string ByteArray.empty)]) hb rfl (cellE.one cell0) (by rfl) ?_
    intro w3 hb3 hx3 _ _
    have he3 := hx3 w1 he2 (by omega)
    refine idx_int ((h2.ext he).ext he3) (by omega) (by omega) ?_
    rw [Int.toNat_natCast]
    generalize hp : ps.getD i 0 = p at *
    refine splitW_i (fun h0 => ?_) (fun h0 => ?_)
    · have h0 := of_decide_eq_true h0
      refine idx_int ((h2.ext he).ext he3) (by omega) (by omega) ?_
      rw [Int.toNat_natCast, hp]
      refine splitW_i (fun h1 => ?_) (fun h1 => ?_)
      · have h1 := of_decide_eq_true h1
        refine idx_int ((h2.ext he).ext he3) (by omega) (by omega) ?_
        rw [Int.toNat_natCast, hp]
        refine idx_A (ls := [.int .i64, .int .i64, .str]) cT cell0 ((h.ext he).ext he3) (fun _ => rfl) rfl (by omega) (by omega) ?_
        refine refill (vs := cellE.f (vs.getD p.toNat cell0)) hb3 rfl (cellE.one _) (by rfl) ?_
        intro w4 hb4 hx4 _ _
        refine fin (I := (fun (x : (Option Addr × Nat × Nat) × Int × Unit) w' => (Ext w w' ∧ ∃ (i : Nat) (A' : Option Addr) (c' : Nat), i ≤ n2 ∧ x = ((A', i, c'), (i : Int), ()) ∧ Owni cellE 44 w' w.heap.size A' i c' (pickR vs (ps.take i))) ∧ (n2 - x.2.1).toNat < (n2 - (i : Int)).toNat)) (hx4 w1 he3 (by omega)) ?_ hb4 inv
        unfold pickC
        rw [if_pos ⟨by omega, by omega⟩]
      · have h1 := of_decide_eq_false h1
        refine fin (I := (fun (x : (Option Addr × Nat × Nat) × Int × Unit) w' => (Ext w w' ∧ ∃ (i : Nat) (A' : Option Addr) (c' : Nat), i ≤ n2 ∧ x = ((A', i, c'), (i : Int), ()) ∧ Owni cellE 44 w' w.heap.size A' i c' (pickR vs (ps.take i))) ∧ (n2 - x.2.1).toNat < (n2 - (i : Int)).toNat)) (q := cell0) he3 ?_ hb3 inv
        unfold pickC
        rw [if_neg (fun hh => by unfold okP at hh; omega)]
    · have h0 := of_decide_eq_false h0
      refine fin (I := (fun (x : (Option Addr × Nat × Nat) × Int × Unit) w' => (Ext w w' ∧ ∃ (i : Nat) (A' : Option Addr) (c' : Nat), i ≤ n2 ∧ x = ((A', i, c'), (i : Int), ()) ∧ Owni cellE 44 w' w.heap.size A' i c' (pickR vs (ps.take i))) ∧ (n2 - x.2.1).toNat < (n2 - (i : Int)).toNat)) (q := cell0) he3 ?_ hb3 inv
      unfold pickC
      rw [if_neg (fun hh => by unfold okP at hh; omega)]

  · obtain rfl : i = n2 := by omega
    refine splitW_f (decide_eq_false (by omega)) ?_
    rw [List.take_of_length_le (by omega)] at ho
    exact ⟨(A', i, c'), rfl, ho, he⟩
def fitsE (c : Col) (v : Cell) : Int := if cellE' v ≠ 0 then cellE' v else if v.1 = c.2.1 ∨ (v.1 = 0 ∧ c.2.2 = true) then 0 else 173
theorem fits_calls (w : World) (c : Col) {v : Cell} (hq : cellQ v) : Calls Try.prog 42 #[.agg #[.string c.1, .int .i64 c.2.1, .bool c.2.2], .agg #[.int .i64 v.1, .int .i64 v.2.1, .string v.2.2]] w (Ret fun x w' => x = .int .i64 (fitsE c v) ∧ Ext w w') := by
  apply calls42
  unfold S42 fitsE
  refine new_i fun r w1 hb he _ _ => ?_
  refine new_i fun r2 w2 hb2 he2 _ _ => ?_
  have hb := hb.ext he2
  have he := he.trans he2
  refine boxA (ls := [.int .i64, .int .i64, .str]) (cT v) hb2 rfl ?_
  refine callW_of (vcheck_calls w2 hq) ?_
  rintro _ w3 ⟨rfl, he3⟩
  refine ⟨_, rfl, ?_⟩
  have hb := hb.ext he3
  have hb2 := hb2.ext he3
  have he := he.trans he3
  refine splitW_i (fun h => ?_) (fun h => ?_)
  · rw [if_pos (bne_iff_ne.1 h)]
    exact ⟨rfl, he⟩
  have h := bne_eq_false_iff_eq.1 h
  rw [if_neg (by simpa using h)]
  refine box0 v.1 hb2 (by rfl) ?_
  refine boxF 1 c.2.1 hb (by rfl) ?_
  refine splitW_i (fun h1 => ?_) (fun h1 => ?_)
  · rw [if_pos (.inl (beq_iff_eq.1 h1))]
    exact ⟨rfl, he⟩
  have h1 := beq_eq_false_iff_ne.1 h1
  refine box0 v.1 hb2 (by rfl) ?_
  refine splitW_i (fun h2 => ?_) (fun h2 => ?_)
  · have h2 := beq_iff_eq.1 h2
    refine boxF 2 c.2.2 hb (by rfl) ?_
    refine splitW_i (fun h3 => ?_) (fun h3 => ?_)
    · rw [if_pos (.inr ⟨h2, h3⟩)]
      exact ⟨rfl, he⟩
    · rw [if_neg (by rintro (h4 | ⟨_, h4⟩); exact h1 h4; rw [h4] at h3; cases h3)]
      exact ⟨rfl, he⟩
  · have h2 := beq_eq_false_iff_ne.1 h2
    rw [if_neg (by rintro (h4 | ⟨h4, _⟩); exact h1 h4; exact h2 h4)]
    exact ⟨rfl, he⟩
theorem rcell_calls (w : World) (c : Col) (v : Cell) : Calls Try.prog 43 #[.agg #[.string c.1, .int .i64 c.2.1, .bool c.2.2], .agg #[.int .i64 v.1, .int .i64 v.2.1, .string v.2.2]] w (Ret fun x w' => x = .int .i64 (fitsE c v) ∧ Ext w w') := by
  apply calls43
  unfold S43 fitsE
  refine new_i fun r w1 hb he _ _ => ?_
  refine new_i fun r2 w2 hb2 he2 _ _ => ?_
  have hb := hb.ext he2
  have he := he.trans he2
  refine boxA (ls := [.int .i64, .int .i64, .str]) (cT v) hb2 rfl ?_
  refine callW_of (rvcheck_calls w2 v) ?_
  rintro _ w3 ⟨rfl, he3⟩
  refine ⟨_, rfl, ?_⟩
  have hb := hb.ext he3
  have hb2 := hb2.ext he3
  have he := he.trans he3
  refine splitW_i (fun h => ?_) (fun h => ?_)
  · rw [if_pos (bne_iff_ne.1 h)]
    exact ⟨rfl, he⟩
  have h := bne_eq_false_iff_eq.1 h
  rw [if_neg (by simpa using h)]
  refine box0 v.1 hb2 (by rfl) ?_
  refine boxF 1 c.2.1 hb (by rfl) ?_
  refine splitW_i (fun h1 => ?_) (fun h1 => ?_)
  · have h1 := bne_iff_ne.1 h1
    refine box0 v.1 hb2 (by rfl) ?_
    refine splitW_i (fun h2 => ?_) (fun h2 => ?_)
    · have h2 := beq_iff_eq.1 h2
      refine boxF 2 c.2.2 hb (by rfl) ?_
      refine splitW_i (fun h3 => ?_) (fun h3 => ?_)
      · have h3 : c.2.2 = false := by simpa using h3
        rw [if_neg (by rintro (h4 | ⟨_, h4⟩); exact h1 h4; rw [h4] at h3; cases h3)]
        exact ⟨rfl, he⟩
      · have h3 : c.2.2 = true := by simpa using h3
        rw [if_pos (.inr ⟨h2, h3⟩)]
        exact ⟨rfl, he⟩
    · have h2 := beq_eq_false_iff_ne.1 h2
      rw [if_neg (by rintro (h4 | ⟨h4, _⟩); exact h1 h4; exact h2 h4)]
      exact ⟨rfl, he⟩
  · rw [if_pos (.inl (bne_eq_false_iff_eq.1 h1))]
    exact ⟨rfl, he⟩
def rowF : List Col → List Cell → Int
  | c :: cs, v :: vs => if fitsE c v ≠ 0 then fitsE c v else rowF cs vs
  | _, _ => 0
def rowR (cs : List Col) (vs : List Cell) : Int := if checkC cs ≠ 0 then checkC cs else if vs.length ≠ cs.length then 173 else rowF cs vs
theorem rowF_step {cs : List Col} {vs : List Cell} {i : Nat} (h : i < cs.length) (h2 : i < vs.length) : rowF (cs.drop i) (vs.drop i) = if fitsE (cs.getD i col0) (vs.getD i cell0) ≠ 0 then fitsE (cs.getD i col0) (vs.getD i cell0) else rowF (cs.drop (i + 1)) (vs.drop (i + 1)) := by
  rw [List.drop_eq_getElem_cons h, List.drop_eq_getElem_cons h2, rowF, getD_of_lt h, getD_of_lt h2]
theorem row_calls {w : World} {A A2 : Option Addr} {n c n2 c2 : Nat} {cs : List Col} {vs : List Cell} (h : Sli colE w A n cs) (hc : n ≤ c) (h2 : Sli cellE w A2 n2 vs) (hq : ∀ v ∈ vs, cellQ v) :
    Calls Try.prog 19 #[.slice A n c, .slice A2 n2 c2] w (Ret fun v w' => v = .int .i64 (rowR cs vs) ∧ Ext w w') := by
  apply calls19
  unfold S19 rowR
  have hl := h.len
  have hl2 := h2.len
  have hle := h.2.1
  refine callW_of (check_calls h hc) ?_
  rintro _ w1 ⟨rfl, he1⟩
  refine ⟨_, rfl, ?_⟩
  refine splitW_i (fun hn => ?_) (fun hn => ?_)
  · rw [if_pos (bne_iff_ne.1 hn)]
    exact ⟨rfl, he1⟩
  rw [if_neg (by simpa using bne_eq_false_iff_eq.1 hn)]
  refine splitW_i (fun hn => ?_) (fun hn => ?_)
  · have hn := bne_iff_ne.1 hn
    rw [if_pos (by omega)]
    exact ⟨rfl, he1⟩
  have hn := bne_eq_false_iff_eq.1 hn
  obtain rfl : n = n2 := by omega
  rw [if_neg (by omega)]
  refine loopW_i (fun x w' => Ext w w' ∧ ∃ i : Nat, i ≤ n ∧ x = ((i : Int), ()) ∧ rowF cs vs = rowF (cs.drop i) (vs.drop i)) (fun x => (n - x.1).toNat) ⟨he1, 0, by omega, rfl, rfl⟩ ?_
  rintro _ w2 ⟨he, i, hi, rfl, hf⟩
  dsimp only
  by_cases hlt : i < n
  · refine splitW_t (decide_eq_true (by omega)) ?_
    rw [rowF_step (by omega) (by omega)] at hf
    refine idx_A (ls := [.str, .int .i64, .bool]) colT col0 (h.ext he) (fun _ => rfl) rfl (by omega) (by omega) ?_
    rw [Int.toNat_natCast]
    refine new_i fun r w3 hb he3 hr _ => ?_
    refine refill (vs := colE.f (cs.getD i col0)) hb rfl (colE.one _) (by rfl) ?_
    intro w4 hb4 hx4 _ _
    have he4 := hx4 w (he.trans he3) (by have := he.size; omega)
    refine draw_i fun w5 he5 _ _ => ?_
    have hb5 := hb4.ext he5
    have he5 := he4.trans he5
    refine boxA (ls := [.str, .int .i64, .bool]) (colT (cs.getD i col0)) hb5 rfl ?_
    refine idx_A (ls := [.int .i64, .int .i64, .str]) cT cell0 (h2.ext he5) (fun _ => rfl) rfl (by omega) (by omega) ?_
    rw [Int.toNat_natCast]
    refine callW_of (fits_calls w5 (cs.getD i col0) (v := vs.getD i cell0) (hq _ (getD_mem (by omega)))) ?_
    rintro _ w6 ⟨rfl, he6⟩
    refine ⟨_, rfl, ?_⟩
    have he6 := he5.trans he6
    refine splitW_i (fun hn => ?_) (fun hn => ?_)
    · rw [hf, if_pos (bne_iff_ne.1 hn)]
      exact ⟨rfl, he6⟩
    · rw [if_neg (by simpa using bne_eq_false_iff_eq.1 hn)] at hf
      rw [wrap_i64 (by omega) (by omega)]
      exact ⟨⟨he6, i + 1, by omega, rfl, hf⟩, by omega⟩
  · obtain rfl : i = n := by omega
    refine splitW_f (decide_eq_false (by omega)) ?_
    rw [List.drop_of_length_le (by omega), List.drop_of_length_le (by omega)] at hf
    exact ⟨by rw [hf]; rfl, he⟩
theorem rrow_calls {w : World} {A A2 : Option Addr} {n c n2 c2 : Nat} {cs : List Col} {vs : List Cell} (h : Sli colE w A n cs) (h2 : Sli cellE w A2 n2 vs) :
    Calls Try.prog 35 #[.slice A n c, .slice A2 n2 c2] w (Ret fun v w' => v = .int .i64 (rowR cs vs) ∧ Ext w w') := by
  apply calls35
  unfold S35 rowR
  have hl := h.len
  have hl2 := h2.len
  have hle := h.2.1
  refine callW_of (rcheck_calls h) ?_
  rintro _ w1 ⟨rfl, he1⟩
  refine ⟨_, rfl, ?_⟩
  refine splitW_i (fun hn => ?_) (fun hn => ?_)
  · rw [if_pos (bne_iff_ne.1 hn)]
    exact ⟨rfl, he1⟩
  rw [if_neg (by simpa using bne_eq_false_iff_eq.1 hn)]
  refine splitW_i (fun hn => ?_) (fun hn => ?_)
  · have hn := bne_iff_ne.1 hn
    rw [if_pos (by omega)]
    exact ⟨rfl, he1⟩
  have hn := bne_eq_false_iff_eq.1 hn
  obtain rfl : n = n2 := by omega
  rw [if_neg (by omega)]
  refine loopW_i (fun x w' => Ext w w' ∧ ∃ i : Nat, i ≤ n ∧ x = ((i : Int), ()) ∧ rowF cs vs = rowF (cs.drop i) (vs.drop i)) (fun x => (n - x.1).toNat) ⟨he1, 0, by omega, rfl, rfl⟩ ?_
  rintro _ w2 ⟨he, i, hi, rfl, hf⟩
  dsimp only
  by_cases hlt : i < n
  · refine splitW_t (decide_eq_true (by omega)) ?_
    rw [rowF_step (by omega) (by omega)] at hf
    refine draw_i fun w5 he5 _ _ => ?_
    have he5 := he.trans he5
    refine idx_A (ls := [.str, .int .i64, .bool]) colT col0 (h.ext he5) (fun _ => rfl) rfl (by omega) (by omega) ?_
    refine idx_A (ls := [.int .i64, .int .i64, .str]) cT cell0 (h2.ext he5) (fun _ => rfl) rfl (by omega) (by omega) ?_
    rw [Int.toNat_natCast]
    refine callW_of (rcell_calls w5 (cs.getD i col0) (vs.getD i cell0)) ?_
    rintro _ w6 ⟨rfl, he6⟩
    refine ⟨_, rfl, ?_⟩
    have he6 := he5.trans he6
    refine splitW_i (fun hn => ?_) (fun hn => ?_)
    · rw [hf, if_pos (bne_iff_ne.1 hn)]
      exact ⟨rfl, he6⟩
    · rw [if_neg (by simpa using bne_eq_false_iff_eq.1 hn)] at hf
      rw [wrap_i64 (by omega) (by omega)]
      exact ⟨⟨he6, i + 1, by omega, rfl, hf⟩, by omega⟩
  · obtain rfl : i = n := by omega
    refine splitW_f (decide_eq_false (by omega)) ?_
    rw [List.drop_of_length_le (by omega), List.drop_of_length_le (by omega)] at hf
    exact ⟨by rw [hf]; rfl, he⟩
theorem lightrow_calls {w : World} {A : Option Addr} {n c : Nat} {vs : List Cell} (h : Sli cellE w A n vs) : Calls Try.prog 17 #[.slice A n c] w (Ret fun v w' => (∃ q : Bool, v = .bool q ∧ (q = true → n ≤ 20)) ∧ w' = w) := by
  apply calls17
  unfold S17
  have hle := h.2.1
  refine loopW_i (fun y w' => w' = w ∧ ∃ i : Nat, i ≤ n ∧ y = ((i : Int), ())) (fun y => (n - y.1).toNat) ⟨rfl, 0, by omega, rfl⟩ ?_
  rintro _ _ ⟨rfl, i, hi, rfl⟩
  dsimp only
  by_cases hlt : i < n
  · refine splitW_t (decide_eq_true (by omega)) ?_
    refine idx_f (l := .str) 2 (fun c => c.2.2) cell0 h (fun _ => rfl) rfl (by omega) (by omega) ?_
    rw [wrap_i64 (by omega) (by omega)]
    exact splitW_i (fun _ => ⟨⟨false, rfl, fun e => by cases e⟩, rfl⟩) (fun _ => ⟨⟨rfl, i + 1, by omega, rfl⟩, by omega⟩)
  · exact splitW_f (decide_eq_false (by omega)) ⟨⟨_, rfl, fun e => by have := of_decide_eq_true e; omega⟩, rfl⟩
end Go.Proofs.Ytiihdgodghaobaa.V
