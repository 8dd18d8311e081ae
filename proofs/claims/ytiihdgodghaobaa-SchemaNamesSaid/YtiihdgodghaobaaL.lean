/- The laws of chapter 17, as contracts. -/
import Derived.Test.YtiihdgodghaobaaKSchema2
set_option linter.unusedVariables false
set_option linter.unusedSimpArgs false
namespace Go.Proofs.Ytiihdgodghaobaa.V
open Go Go.Proofs

theorem bytes_a : bytesR [(⟨#[97]⟩, 1, true)] = ([1, 129, 1, 97], 0) := by kernel_rfl
theorem lives_calls (w : World) : Calls Try.prog 9 #[] w (Ret fun v w' => v = .bool true ∧ Ext w w') := by
  apply calls9
  unfold S9
  apply newW_i
  have he : Ext w (w.alloc (.cells #[(.string (ByteArray.mk #[97])), (.int .i64 (1 : Int)), (.bool true)] 31)) := (Ext.refl w).alloc _
  have hb : Blk (w.alloc (.cells #[(.string (ByteArray.mk #[97])), (.int .i64 (1 : Int)), (.bool true)] 31)) w.heap.size (colE.flat [(⟨#[97]⟩, 1, true)]) 31 := Blk.new w _ _
  refine callW_of (bytes_calls (Sli.of_blk (n := 1) hb rfl (by omega)) (by omega)) ?_
  rintro _ w1 ⟨rfl, he1⟩
  refine ⟨(_, _, ()), rfl, ?_⟩
  rw [bytes_a]
  refine splitW_t rfl ?_
  exact ⟨by dsimp only; rw [str_beq]; rfl, he.trans he1⟩
/-! ### What is found -/
theorem checkFrom_distinct : ∀ (r pre : List Col), checkFrom pre r = 0 → ∀ (j : Nat) (c : Col), r[j]? = some c → ∀ d, (d ∈ pre ∨ ∃ i, i < j ∧ r[i]? = some d) → B d.1 ≠ B c.1
  | [], _, _, j, c, hc, _, _ => by simp at hc
  | x :: r, pre, h, j, c, hc, d, hd => by
    unfold checkFrom at h
    split at h
    · cases h
    split at h
    · cases h
    rename_i _ h2
    cases j with
    | zero =>
      have hxc : x = c := by simpa using hc
      subst hxc
      rcases hd with hd | ⟨i, hi, _⟩
      · intro he
        apply h2
        right; right
        rw [List.any_eq_true]
        exact ⟨d, hd, decide_eq_true he⟩
      · omega
    | succ j =>
      refine checkFrom_distinct r (pre ++ [x]) h j c (by simpa using hc) d ?_
      rcases hd with hd | ⟨i, hi, hdi⟩
      · exact .inl (List.mem_append_left _ hd)
      · cases i with
        | zero =>
          have hxd : x = d := by simpa using hdi
          subst hxd
          exact .inl (by simp)
        | succ i => exact .inr ⟨i, by omega, by simpa using hdi⟩
theorem findI_at {cs : List Col} {i : Nat} {c : Col} (h : checkFrom [] cs = 0) (hc : cs[i]? = some c) : findI c.1 cs = i := by
  have hi : i < cs.length := (List.getElem?_eq_some_iff.1 hc).1
  have hci : cs[i] = c := (List.getElem?_eq_some_iff.1 hc).2
  unfold findI
  rw [List.findIdx_eq hi]
  refine ⟨by rw [hci]; exact decide_eq_true rfl, fun j hj => ?_⟩
  rw [decide_eq_false_iff_not]
  exact checkFrom_distinct cs [] h i c hc _ (.inr ⟨j, hj, List.getElem?_eq_getElem (by omega)⟩)
theorem findI_append (s : ByteArray) (cs : List Col) (c : Col) (hc : B c.1 = B s) : findI s (cs ++ [c]) = findI s cs := by
  unfold findI
  rw [List.findIdx_append]
  split
  · rfl
  · rename_i h
    have : List.findIdx (fun c => decide (B c.1 = B s)) [c] = 0 := by simp [List.findIdx_cons, hc]
    rw [this]
    have := List.findIdx_le_length (p := fun c : Col => decide (B c.1 = B s)) (xs := cs)
    omega
theorem findI_spec {s : ByteArray} {cs : List Col} (h : findI s cs < cs.length) : ∃ c, cs[findI s cs]? = some c ∧ B c.1 = B s := by
  refine ⟨cs[findI s cs], List.getElem?_eq_getElem h, ?_⟩
  have := List.findIdx_getElem (p := fun c : Col => decide (B c.1 = B s)) (xs := cs) (w := h)
  exact of_decide_eq_true this

theorem finds_calls {w : World} {A : Option Addr} {n c : Nat} {cs : List Col} {which : Int} {name : ByteArray} (h : Sli colE w A n cs) (hc : n ≤ c) (hw0 : -9223372036854775808 ≤ which) (hw1 : which < 9223372036854775808) :
    Calls Try.prog 3 #[.slice A n c, .int .i64 which, .string name] w (Ret fun v w' => v = .bool true ∧ Ext w w') := by
  apply calls3
  unfold S3
  have hl := h.len
  refine callW_of (lives_calls w) ?_
  rintro _ w1 ⟨rfl, he1⟩
  refine ⟨_, rfl, ?_⟩
  refine splitW_f (by rfl) ?_
  refine callW_of (lightcols_calls (h.ext he1)) ?_
  rintro _ w2 ⟨rfl, he2⟩
  refine ⟨_, rfl, ?_⟩
  have he02 := he1.trans he2
  refine splitW_i (fun _ => ⟨rfl, he02⟩) (fun hlight => ?_)
  refine callW_of (check_calls (h.ext he02) hc) ?_
  rintro _ w3 ⟨rfl, he3⟩
  refine ⟨_, rfl, ?_⟩
  have he03 := he02.trans he3
  refine splitW_i (fun _ => ⟨rfl, he03⟩) (fun hck => ?_)
  have hck : checkC cs = 0 := by simpa using hck
  obtain ⟨hlen, hfrom, hok⟩ := checkC_ok hck
  refine splitW_i (fun _ => ⟨rfl, he03⟩) (fun hnl => ?_)
  refine callW_of (pick_calls w3 hw0 hw1 (by omega)) ?_
  rintro _ w4 ⟨rfl, hw4⟩
  subst hw4
  refine ⟨_, rfl, ?_⟩
  obtain ⟨i, hi, hin⟩ : ∃ i : Nat, pick which (n : Int) = i ∧ i < n := by
    refine ⟨(pick which (n : Int)).toNat, ?_, ?_⟩ <;>
    · unfold pick
      rw [if_neg (by omega)]
      have := Int.emod_nonneg which (show (n : Int) ≠ 0 by omega)
      have := Int.emod_lt_of_pos which (show 0 < (n : Int) by omega)
      omega
  rw [hi]
  obtain ⟨col, hcol⟩ : ∃ col, cs[i]? = some col := ⟨_, List.getElem?_eq_getElem (show i < cs.length by omega)⟩
  refine idx_el (h.ext he03) (by omega) (x := col) (by simpa using hcol) rfl ?_
  intro p hp hcell
  refine ld_i (by have := hcell.1; rw [add_zero] at this; exact this) ?_
  refine callW_of (find_calls (s := col.1) (h.ext he03)) ?_
  rintro _ w5 ⟨rfl, he5⟩
  refine ⟨(_, _, ()), rfl, ?_⟩
  have he05 := he03.trans he5
  refine callW_of (find_calls (s := name) (h.ext he05)) ?_
  rintro _ w6 ⟨rfl, he6⟩
  refine ⟨(_, _, ()), rfl, ?_⟩
  have he06 := he05.trans he6
  apply newW_i
  have ho0 : Owni colE 31 (w6.alloc (.cells #[] 31)) w.heap.size (some ⟨w6.heap.size, 0, none⟩) 0 0 [] := Owni.lit (E := colE) (xs := []) rfl he06.size (by omega)
  have he7 := he06.alloc (.cells #[] 31)
  generalize w6.alloc (.cells #[] 31) = w7 at ho0 he7 ⊢
  refine append_sli elem_col ho0 he7.size (h.ext he7) (by omega) (by omega) ?_
  intro A8 c8 w8 ho8 hg8 _
  rw [List.nil_append, Nat.zero_add] at ho8
  have he8 := he7.grown hg8.grown ho0.row
  dsimp only
  rw [Nat.zero_add]
  refine append_newi (E := colE) (ys := [(name, 1, false)]) (by rfl) rfl elem_col ho8 he8.size (by omega) (by omega) ?_
  intro A9 c9 w9 ho9 hg9
  have he9 := he8.grown hg9.grown ho8.row
  dsimp only
  refine callW_of (find_calls (s := name) ho9.sl) ?_
  rintro _ w10 ⟨rfl, he10⟩
  refine ⟨(_, _, ()), rfl, ?_⟩
  have he010 := he9.trans he10
  dsimp only
  have e1 : findR col.1 cs = ((i : Int), 0) := by
    unfold findR
    rw [findI_at hfrom hcol, if_pos (by omega)]
  have e3 : findR name (cs ++ [(name, 1, false)]) = ((findI name cs : Int), 0) := by
    unfold findR
    rw [findI_append name cs (name, 1, false) rfl, if_pos]
    have := List.findIdx_le_length (p := fun c : Col => decide (B c.1 = B name)) (xs := cs)
    simp only [List.length_append, List.length_cons, List.length_nil]
    unfold findI
    omega
  rw [e1, e3]
  refine splitW_f (by rfl) ?_
  refine splitW_f (by simp) ?_
  refine splitW_f (by rfl) ?_
  by_cases hf : findI name cs < cs.length
  · have e2 : findR name cs = ((findI name cs : Int), 0) := by unfold findR; rw [if_pos hf]
    rw [e2]
    refine splitW_f (by rfl) ?_
    dsimp only
    refine splitW_t (decide_eq_true (by omega)) ?_
    refine splitW_t (decide_eq_true (by omega)) ?_
    obtain ⟨col2, hcol2, hB2⟩ := findI_spec hf
    refine idx_el (h.ext he010) (by omega) (x := col2) (by simpa using hcol2) rfl ?_
    intro p2 hp2 hcell2
    refine ld_i (by have := hcell2.1; rw [add_zero] at this; exact this) ?_
    refine splitW_t (by rw [str_beq, hB2]; simp) ?_
    exact ⟨by simp, he010⟩
  · have e2 : findR name cs = (0, 172) := by unfold findR; rw [if_neg hf]
    rw [e2]
    refine splitW_t (by rfl) ?_
    refine splitW_t (by rfl) ?_
    have := List.findIdx_le_length (p := fun c : Col => decide (B c.1 = B name)) (xs := cs)
    have hfe : findI name cs = n := by unfold findI at hf ⊢; omega
    exact ⟨by rw [hfe]; simp, he010⟩
end Go.Proofs.Ytiihdgodghaobaa.V
