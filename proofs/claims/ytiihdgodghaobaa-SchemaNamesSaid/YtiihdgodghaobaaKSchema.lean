/- Contracts of the package schema and of the document's answer (17). -/
import Derived.Test.YtiihdgodghaobaaKKit
import Derived.Test.YtiihdgodghaobaaStr
set_option linter.unusedVariables false
set_option linter.unusedSimpArgs false
namespace Go.Proofs.Ytiihdgodghaobaa.V
open Go Go.Proofs

/-- A column: name, kind, whether it may be null. -/
abbrev Col := ByteArray × Int × Bool
def colE : Enc Col where
  k := 3
  f c := [.string c.1, .int .i64 c.2.1, .bool c.2.2]
  len _ := rfl
  one _ := by
    intro v hv
    simp only [List.mem_cons, List.not_mem_nil, or_false] at hv
    rcases hv with rfl | rfl | rfl <;> rfl
  pos := by omega
def letter (c : Nat) : Bool := (97 ≤ c && c ≤ 122) || (65 ≤ c && c ≤ 90) || c == 95
def digit (c : Nat) : Bool := 48 ≤ c && c ≤ 57
def charOK (i c : Nat) : Bool := letter c || (decide (0 < i) && digit c)
theorem charOK_iff {i c : Nat} : charOK i c = true ↔ (97 ≤ c ∧ c ≤ 122) ∨ (65 ≤ c ∧ c ≤ 90) ∨ c = 95 ∨ (0 < i ∧ 48 ≤ c ∧ c ≤ 57) := by
  simp only [charOK, letter, digit, Bool.or_eq_true, Bool.and_eq_true, decide_eq_true_eq, beq_iff_eq]
  omega
def nameOK (s : List UInt8) : Bool := decide (1 ≤ s.length ∧ s.length ≤ 32 ∧ ∀ i, i < s.length → charOK i (s.getD i 0).toNat = true)
def nameE (s : List UInt8) : Int := if nameOK s then 0 else 170
theorem nameE_short {s : List UInt8} (h : s.length < 1) : nameE s = 170 := by
  unfold nameE nameOK
  rw [decide_eq_false (by omega)]
  rfl
theorem nameE_long {s : List UInt8} (h : 32 < s.length) : nameE s = 170 := by
  unfold nameE nameOK
  rw [decide_eq_false (by omega)]
  rfl
theorem nameE_bad {s : List UInt8} {i : Nat} (hi : i < s.length) (h : charOK i (s.getD i 0).toNat = false) : nameE s = 170 := by
  unfold nameE nameOK
  rw [decide_eq_false (fun hh => by rw [hh.2.2 i hi] at h; cases h)]
  rfl
theorem nameE_good {s : List UInt8} (h1 : 1 ≤ s.length) (h2 : s.length ≤ 32) (h : ∀ i, i < s.length → charOK i (s.getD i 0).toNat = true) : nameE s = 0 := by
  unfold nameE nameOK
  rw [decide_eq_true ⟨h1, h2, h⟩]
  rfl
theorem name_calls (w : World) (s : ByteArray) : Calls Try.prog 23 #[.string s] w (Ret fun v w' => v = .int .i64 (nameE (B s)) ∧ Ext w w') := by
  apply calls23
  unfold S23
  have hsz := B_size s
  refine splitW_i (fun h => ?_) (fun h1 => ?_)
  · exact ⟨by rw [nameE_short (by have := of_decide_eq_true h; omega)], Ext.refl w⟩
  refine splitW_i (fun h => ?_) (fun h2 => ?_)
  · exact ⟨by rw [nameE_long (by have := of_decide_eq_true h; omega)], Ext.refl w⟩
  have h1 := of_decide_eq_false h1
  have h2 := of_decide_eq_false h2
  apply newW_i
  refine ⟨fun _ w' => ∃ pos, w'.heap[w.heap.size]? = some (.stringIter s pos) ∧ pos ≤ s.size ∧ Ext w w' ∧ ∀ i, i < pos → charOK i ((B s).getD i 0).toNat = true,
    fun _ w' => match w'.heap[w.heap.size]? with | some (.stringIter s pos) => s.size - pos | _ => 0, ⟨0, by show (w.heap.push _)[_]? = _; simp, by omega, (Ext.refl w).alloc _, fun i hi => by omega⟩, ?_⟩
  rintro _ w' ⟨pos, hb, hp, he, hok⟩
  have hlt := (Array.getElem?_eq_some_iff.1 hb).1
  refine ⟨s, pos, hb, fun hps => ?_, fun hps => ?_⟩
  · have hgo : charOK pos ((B s).getD pos 0).toNat = true → ((B s).getD pos 0).toNat < 128 → (fun (_ : Unit) w'' => (∃ pos, w''.heap[w.heap.size]? = some (.stringIter s pos) ∧ pos ≤ s.size ∧ Ext w w'' ∧ ∀ i, i < pos → charOK i ((B s).getD i 0).toNat = true) ∧
        (match w''.heap[w.heap.size]? with | some (.stringIter s pos) => s.size - pos | _ => 0) < (match w'.heap[w.heap.size]? with | some (.stringIter s pos) => s.size - pos | _ => 0)) () (setO w' w.heap.size (.stringIter s (pos + (Utf8.decode s pos).2))) := by
      intro hc hlo
      have hd := decode_ascii hps hlo
      rw [hd]
      have hs := setO_same (w := w') (l := w.heap.size) (o := .stringIter s (pos + 1)) hlt
      refine ⟨⟨pos + 1, hs, by omega, he.setO (Nat.le_refl _) _, fun i hi => ?_⟩, ?_⟩
      · by_cases hip : i = pos
        · subst hip; exact hc
        · exact hok i (by omega)
      · rw [hs, hb]
        simp only
        omega
    have hw2 : Ext w (setO w' w.heap.size (.stringIter s (pos + (Utf8.decode s pos).2))) := he.setO (Nat.le_refl _) _
    have hbyte : ((B s).getD pos 0).toNat < 128 ∧ (Utf8.decode s pos).1 = ((B s).getD pos 0).toNat ∨ ¬ ((B s).getD pos 0).toNat < 128 ∧ 128 ≤ (Utf8.decode s pos).1 := by
      by_cases hlo : ((B s).getD pos 0).toNat < 128
      · exact .inl ⟨hlo, by rw [decode_ascii hps hlo]⟩
      · exact .inr ⟨hlo, decode_other hps hlo⟩
    have hbad : charOK pos (Utf8.decode s pos).1 = false → nameE (B s) = 170 := by
      intro hc
      refine nameE_bad (i := pos) (by omega) ?_
      rcases hbyte with ⟨h1, h2⟩ | ⟨h1, h2⟩
      · rw [← h2]; exact hc
      · rw [Bool.eq_false_iff]
        intro hh
        rw [charOK_iff] at hh
        omega
    have hgood : charOK pos (Utf8.decode s pos).1 = true → (fun (_ : Unit) w'' => (∃ pos, w''.heap[w.heap.size]? = some (.stringIter s pos) ∧ pos ≤ s.size ∧ Ext w w'' ∧ ∀ i, i < pos → charOK i ((B s).getD i 0).toNat = true) ∧
        (match w''.heap[w.heap.size]? with | some (.stringIter s pos) => s.size - pos | _ => 0) < (match w'.heap[w.heap.size]? with | some (.stringIter s pos) => s.size - pos | _ => 0)) () (setO w' w.heap.size (.stringIter s (pos + (Utf8.decode s pos).2))) := by
      intro hc
      rcases hbyte with ⟨h1, h2⟩ | ⟨h1, h2⟩
      · exact hgo (by rw [← h2]; exact hc) h1
      · rw [charOK_iff] at hc
        omega
    clear hgo hbyte
    generalize setO w' w.heap.size (.stringIter s (pos + (Utf8.decode s pos).2)) = w2 at *
    generalize (Utf8.decode s pos).1 = c at *
    refine splitW_t rfl ?_
    refine joinW_s (fun _ w' => charOK pos c = false ∧ w' = w2) ?_ (fun J6 h6 => ?_)
    · rintro _ w3 ⟨hc, rfl⟩
      exact ⟨by rw [hbad hc], hw2⟩
    refine joinW_s (fun (x : Bool × Unit) w' => (x.1 = true ↔ (97 ≤ c ∧ c ≤ 122) ∨ (65 ≤ c ∧ c ≤ 90) ∨ c = 95) ∧ w' = w2) ?_ (fun J8 h8 => ?_)
    · rintro ⟨b, _⟩ w3 ⟨hb', rfl⟩
      simp only at hb'
      have ok : charOK pos c = true ↔ b = true ∨ (0 < pos ∧ 48 ≤ c ∧ c ≤ 57) := by rw [charOK_iff, hb']; omega
      refine splitW_i (fun h => hgood (ok.2 (.inl h))) (fun hl => ?_)
      have hb2 : ¬ b = true := by simp [show b = false from hl]
      have no : ¬ (0 < pos ∧ 48 ≤ c ∧ c ≤ 57) → J6 () w3 := fun h => h6 _ _ ⟨by rw [Bool.eq_false_iff, ne_eq, ok]; rintro (h1 | h1); exact hb2 h1; exact h h1, rfl⟩
      refine splitW_i (fun h1 => ?_) (fun h1 => no (by have := of_decide_eq_false h1; omega))
      refine splitW_i (fun h2 => ?_) (fun h2 => no (by have := of_decide_eq_false h2; omega))
      refine splitW_i (fun h3 => ?_) (fun h3 => no (by have := of_decide_eq_false h3; omega))
      have h1 := of_decide_eq_true h1
      have h2 := of_decide_eq_true h2
      have h3 := of_decide_eq_true h3
      exact hgood (ok.2 (.inr ⟨by omega, by omega, by omega⟩))
    · have hl : ∀ b : Bool, (b = true ↔ (97 ≤ c ∧ c ≤ 122) ∨ (65 ≤ c ∧ c ≤ 90) ∨ c = 95) → J8 (b, ()) w2 := fun b hb => h8 _ _ ⟨hb, rfl⟩
      refine splitW_i (fun ha => ?_) (fun ha => ?_)
      · have ha := of_decide_eq_true ha
        refine splitW_i (fun hb => hl _ ?_) (fun hb => ?_)
        · rw [decide_eq_true_eq]; have hb := of_decide_eq_true hb; omega
        · have hb := of_decide_eq_false hb
          refine splitW_i (fun h3 => ?_) (fun h3 => ?_)
          · have h3 := of_decide_eq_true h3
            refine splitW_i (fun h4 => hl _ ?_) (fun h4 => hl _ ?_)
            · rw [decide_eq_true_eq]; have h4 := of_decide_eq_true h4; omega
            · rw [beq_iff_eq]; have h4 := of_decide_eq_false h4; omega
          · exact hl _ (by rw [beq_iff_eq]; have h3 := of_decide_eq_false h3; omega)
      · have ha := of_decide_eq_false ha
        refine splitW_i (fun h3 => ?_) (fun h3 => ?_)
        · have h3 := of_decide_eq_true h3
          refine splitW_i (fun h4 => hl _ ?_) (fun h4 => hl _ ?_)
          · rw [decide_eq_true_eq]; have h4 := of_decide_eq_true h4; omega
          · rw [beq_iff_eq]; have h4 := of_decide_eq_false h4; omega
        · exact hl _ (by rw [beq_iff_eq]; have h3 := of_decide_eq_false h3; omega)
  · obtain rfl : pos = s.size := by omega
    refine splitW_f rfl ?_
    exact ⟨by rw [nameE_good (by omega) (by omega) (fun i hi => hok i (by omega))], he⟩
theorem rname_calls (w : World) (s : ByteArray) : Calls Try.prog 33 #[.string s] w (Ret fun v w' => v = .int .i64 (nameE (B s)) ∧ Ext w w') := by
  apply calls33
  unfold S33
  have hsz := B_size s
  refine splitW_i (fun h => ?_) (fun h1 => ?_)
  · exact ⟨by rw [nameE_short (by have := of_decide_eq_true h; omega)], Ext.refl w⟩
  refine splitW_i (fun h => ?_) (fun h2 => ?_)
  · exact ⟨by rw [nameE_long (by have := of_decide_eq_true h; omega)], Ext.refl w⟩
  have h1 := of_decide_eq_false h1
  have h2 := of_decide_eq_false h2
  refine loopW_i (fun x w' => w' = w ∧ ∃ i : Nat, i ≤ s.size ∧ x = ((i : Int), ()) ∧ ∀ k, k < i → charOK k ((B s).getD k 0).toNat = true) (fun x => (s.size - x.1).toNat) ⟨rfl, 0, by omega, rfl, fun k hk => by omega⟩ ?_
  rintro _ _ ⟨rfl, i, hi, rfl, hok⟩
  dsimp only
  rename_i w2
  by_cases hlt : i < s.size
  · refine splitW_t (decide_eq_true (by omega)) ?_
    rw [wrap_i64 (x := (i : Int) + 1) (by omega) (by omega)]
    have hbt : bt s (i : Int) = ((((B s).getD i 0).toNat : Nat) : Int) := by rw [bt_eq (by omega) (by omega)]; rfl
    rw [hbt]
    have hbad : charOK i ((B s).getD i 0).toNat = false → nameE (B s) = 170 := nameE_bad (by omega)
    have hgood : charOK i ((B s).getD i 0).toNat = true → ∀ k, k < i + 1 → charOK k ((B s).getD k 0).toNat = true := fun h k hk => by
      by_cases hki : k = i
      · subst hki; exact h
      · exact hok k (by omega)
    generalize ((B s).getD i 0).toNat = c at *
    refine joinW_s (fun _ w' => charOK i c = true ∧ w' = w2) ?_ (fun J6 h6 => ?_)
    · rintro _ w3 ⟨hc, rfl⟩
      exact ⟨⟨rfl, i + 1, by omega, rfl, hgood hc⟩, by omega⟩
    refine ⟨⟨by omega, by omega⟩, ?_⟩
    refine joinW_s (fun (x : Bool × Unit) w' => (x.1 = true ↔ 48 ≤ c ∧ c ≤ 57) ∧ w' = w2) ?_ (fun J8 h8 => ?_)
    · rintro ⟨d, _⟩ w3 ⟨hd, rfl⟩
      simp only at hd
      refine joinW_s (fun (x : Bool × Unit) w' => (x.1 = true ↔ charOK i c = false) ∧ w' = w3) ?_ (fun J7 h7 => ?_)
      · rintro ⟨b, _⟩ w4 ⟨hb, rfl⟩
        simp only at hb
        refine splitW_i (fun h => ⟨by rw [hbad (hb.1 h)], Ext.refl _⟩) (fun h => h6 _ _ ⟨?_, rfl⟩)
        cases hc : charOK i c with
        | true => rfl
        | false => rw [hb.2 hc] at h; cases h
      have ok := @charOK_iff i c
      have no : ∀ b : Bool, (b = false ↔ (97 ≤ c ∧ c ≤ 122) ∨ (65 ≤ c ∧ c ≤ 90) ∨ c = 95 ∨ (0 < i ∧ 48 ≤ c ∧ c ≤ 57)) → J7 (b, ()) w3 := fun b hb => by
        refine h7 (b, ()) w3 ⟨?_, rfl⟩
        show b = true ↔ charOK i c = false
        cases hc : charOK i c with
        | true =>
          have := hb.2 (ok.1 hc)
          rw [this]
          simp
        | false =>
          cases hbb : b with
          | true => simp
          | false =>
            have := ok.2 (hb.1 hbb)
            rw [hc] at this
            cases this
      have tail : ¬ (97 ≤ c ∧ c ≤ 122) → ¬ (65 ≤ c ∧ c ≤ 90) → (splitW ((c : Int) == (95 : Int)) (J7 (false, ())) <| splitW d (J7 ((!(decide ((i : Int) > (0 : Int)))), ())) <| J7 (true, ())) w3 := fun hn1 hn2 => by
        refine splitW_i (fun h => no _ ?_) (fun h => ?_)
        · rw [beq_iff_eq] at h; simp only [true_iff]; omega
        · have h : ¬ ((c : Int) = 95) := by rw [beq_eq_false_iff_ne] at h; exact h
          refine splitW_i (fun hdd => no _ ?_) (fun hdd => no _ ?_)
          · have := hd.1 hdd
            rw [Bool.not_eq_false', decide_eq_true_eq]
            omega
          · have : ¬ (48 ≤ c ∧ c ≤ 57) := fun hh => by rw [hd.2 hh] at hdd; cases hdd
            simp only [Bool.true_eq_false, false_iff]
            omega
      refine splitW_i (fun ha => ?_) (fun ha => ?_)
      · have ha := of_decide_eq_true ha
        refine splitW_i (fun hb => no _ ?_) (fun hb => ?_)
        · have hb := of_decide_eq_true hb; simp only [true_iff]; omega
        · have hb := of_decide_eq_false hb
          refine splitW_i (fun h3 => ?_) (fun h3 => tail (by omega) (by have h3 := of_decide_eq_false h3; omega))
          have h3 := of_decide_eq_true h3
          refine splitW_i (fun h4 => no _ ?_) (fun h4 => tail (by omega) (by have h4 := of_decide_eq_false h4; omega))
          have h4 := of_decide_eq_true h4
          simp only [true_iff]; omega
      · have ha := of_decide_eq_false ha
        refine splitW_i (fun h3 => ?_) (fun h3 => tail (by omega) (by have h3 := of_decide_eq_false h3; omega))
        have h3 := of_decide_eq_true h3
        refine splitW_i (fun h4 => no _ ?_) (fun h4 => tail (by omega) (by have h4 := of_decide_eq_false h4; omega))
        have h4 := of_decide_eq_true h4
        simp only [true_iff]; omega
    · refine splitW_i (fun ha => ?_) (fun ha => ?_)
      · have ha := of_decide_eq_true ha
        exact h8 _ _ ⟨by rw [decide_eq_true_eq]; omega, rfl⟩
      · have ha := of_decide_eq_false ha
        exact h8 _ _ ⟨by simp only [Bool.false_eq_true, false_iff]; omega, rfl⟩
  · obtain rfl : i = s.size := by omega
    refine splitW_f (decide_eq_false (by omega)) ?_
    exact ⟨by rw [nameE_good (by omega) (by omega) (fun k hk => hok k (by omega))], Ext.refl _⟩
theorem find1_calls {w : World} {c : Col} {a : Addr} {s : ByteArray} (h : w.cell? a = some (.string s)) :
    Calls Try.prog 40 #[.agg #[.string c.1, .int .i64 c.2.1, .bool c.2.2], .pointer (some a)] w (Ret fun v w' => v = .bool (decide (B c.1 = B s)) ∧ Ext w w') := by
  apply calls40
  unfold S40
  apply newW_i
  have he : Ext w (w.alloc (.cells #[(.string c.1), (.int .i64 c.2.1), (.bool c.2.2)] 31)) := (Ext.refl w).alloc _
  have hb : Blk (w.alloc (.cells #[(.string c.1), (.int .i64 c.2.1), (.bool c.2.2)] 31)) w.heap.size [(.string c.1), (.int .i64 c.2.1), (.bool c.2.2)] 31 := Blk.new w _ _
  refine ldW_blk hb (by rfl) ?_
  refine ld_i (he.cell h) ?_
  exact ⟨by rw [str_beq], he⟩
theorem check1_calls {w : World} {c : Col} {a : Addr} {s : ByteArray} (h : w.cell? a = some (.string s)) :
    Calls Try.prog 38 #[.agg #[.string c.1, .int .i64 c.2.1, .bool c.2.2], .pointer (some a)] w (Ret fun v w' => v = .bool (decide (B c.1 = B s)) ∧ Ext w w') := by
  apply calls38
  unfold S38
  apply newW_i
  have he : Ext w (w.alloc (.cells #[(.string c.1), (.int .i64 c.2.1), (.bool c.2.2)] 31)) := (Ext.refl w).alloc _
  have hb : Blk (w.alloc (.cells #[(.string c.1), (.int .i64 c.2.1), (.bool c.2.2)] 31)) w.heap.size [(.string c.1), (.int .i64 c.2.1), (.bool c.2.2)] 31 := Blk.new w _ _
  refine ldW_blk hb (by rfl) ?_
  refine ld_i (he.cell h) ?_
  exact ⟨by rw [str_beq], he⟩
/-- A test of columns that looks at a name that lies somewhere. -/
def Tests (g : FuncId) : Prop := ∀ (w : World) (c : Col) (a : Addr) (s : ByteArray), w.cell? a = some (.string s) →
    Calls Try.prog g #[.agg #[.string c.1, .int .i64 c.2.1, .bool c.2.2], .pointer (some a)] w (Ret fun v w' => v = .bool (decide (B c.1 = B s)) ∧ Ext w w')
def findI (s : ByteArray) (cs : List Col) : Nat := cs.findIdx fun c => decide (B c.1 = B s)
theorem index_calls {w : World} {A : Option Addr} {n c : Nat} {cs : List Col} {g : FuncId} {a : Addr} {s : ByteArray} (hg : enterable Try.prog g = true) (ht : Tests g) (h : Sli colE w A n cs) (ha : w.cell? a = some (.string s)) :
    Calls Try.prog 39 #[.slice A n c, .func (.func g) #[] #[.pointer (some a)]] w (Ret fun v w' => v = .int .i64 (if findI s cs < n then (findI s cs : Int) else -1) ∧ Ext w w') := by
  apply calls39
  unfold S39
  have hl := h.len
  have hle := h.le
  refine loopW_i (fun x w' => Ext w w' ∧ ∃ i : Nat, i ≤ n ∧ x = ((i : Int), ()) ∧ i ≤ findI s cs) (fun x => (n - x.1).toNat) ⟨Ext.refl w, 0, by omega, rfl, by omega⟩ ?_
  rintro _ w' ⟨he, i, hi, rfl, hf⟩
  dsimp only
  by_cases hlt : i < n
  · refine splitW_t (decide_eq_true (by omega)) ?_
    have hx : cs[i]? = some cs[i] := List.getElem?_eq_getElem (by omega)
    refine idx_el (h.ext he) (by omega) (x := cs[i]) (by simp) rfl ?_
    intro p hp hc
    refine ldA_i (ls := [.str, (.int .i64), .bool]) (x := (cs[i].1, cs[i].2.1, cs[i].2.2, ())) hc ?_
    refine callVW_fn hg ?_
    refine callW_of (ht w' cs[i] a s (he.cell ha)) ?_
    rintro _ w1 ⟨rfl, he1⟩
    refine ⟨_, rfl, ?_⟩
    refine splitW_i (fun hd => ?_) (fun hd => ?_)
    · have hfi : findI s cs = i := by
        have h1 : findI s cs ≤ i := by
          rcases Nat.lt_or_ge i (findI s cs) with h1 | h1
          · have := List.not_of_lt_findIdx h1
            rw [hd] at this
            cases this
          · exact h1
        omega
      refine ⟨?_, he.trans he1⟩
      rw [hfi, if_pos hlt]
    · rw [wrap_i64 (by omega) (by omega)]
      refine ⟨⟨he.trans he1, i + 1, by omega, rfl, ?_⟩, by omega⟩
      rcases Nat.lt_or_ge i (findI s cs) with h1 | h1
      · omega
      · have hfi : findI s cs = i := by omega
        have h2 : findI s cs < cs.length := by omega
        have := List.findIdx_getElem (p := fun c : Col => decide (B c.1 = B s)) (xs := cs) (w := h2)
        have h3 : decide (B cs[i].1 = B s) = true := by
          have e : cs[findI s cs] = cs[i] := by congr 1
          rw [← e]; exact this
        rw [h3] at hd
        cases hd
  · obtain rfl : i = n := by omega
    refine splitW_f (decide_eq_false (by omega)) ?_
    exact ⟨by rw [if_neg (by omega)], he⟩
/-- Where a column of that name lies, and the error. -/
def findR (s : ByteArray) (cs : List Col) : Int × Int := if findI s cs < cs.length then ((findI s cs : Int), 0) else (0, 172)
theorem find_calls {w : World} {A : Option Addr} {n c : Nat} {cs : List Col} {s : ByteArray} (h : Sli colE w A n cs) :
    Calls Try.prog 13 #[.slice A n c, .string s] w (Ret fun v w' => v = .tuple #[.int .i64 (findR s cs).1, .int .i64 (findR s cs).2] ∧ Ext w w') := by
  apply calls13
  unfold S13
  apply newW_i
  have he : Ext w (w.alloc (.cells #[(.string s)] 9)) := (Ext.refl w).alloc _
  have hb : Blk (w.alloc (.cells #[(.string s)] 9)) w.heap.size [(.string s)] 9 := Blk.new w _ _
  have hl := h.len
  have hc : (w.alloc (.cells #[(.string s)] 9)).cell? ⟨w.heap.size, 0, none⟩ = some (.string s) := by rw [hb.cell]; rfl
  refine callW_of (index_calls (s := s) (by kernel_rfl) (fun w c a s h => find1_calls h) (h.ext he) hc) ?_
  rintro _ w1 ⟨rfl, he1⟩
  refine ⟨_, rfl, ?_⟩
  unfold findR
  by_cases hf : findI s cs < n
  · rw [if_pos hf, if_pos (by omega)]
    refine splitW_f (decide_eq_false (by omega)) ?_
    exact ⟨rfl, he.trans he1⟩
  · rw [if_neg hf, if_neg (by omega)]
    refine splitW_t (decide_eq_true (by omega)) ?_
    exact ⟨rfl, he.trans he1⟩
theorem contains_calls {w : World} {A : Option Addr} {n c : Nat} {cs : List Col} {g : FuncId} {a : Addr} {s : ByteArray} (hg : enterable Try.prog g = true) (ht : Tests g) (h : Sli colE w A n cs) (ha : w.cell? a = some (.string s)) :
    Calls Try.prog 37 #[.slice A n c, .func (.func g) #[] #[.pointer (some a)]] w (Ret fun v w' => v = .bool (cs.any fun c => decide (B c.1 = B s)) ∧ Ext w w') := by
  apply calls37
  unfold S37
  refine callW_of (index_calls hg ht h ha) ?_
  rintro _ w1 ⟨rfl, he1⟩
  refine ⟨_, rfl, ?_, he1⟩
  have hl := h.len
  congr 1
  rw [Bool.eq_iff_iff, decide_eq_true_iff, List.any_eq_true]
  have := List.findIdx_lt_length (p := fun c : Col => decide (B c.1 = B s)) (xs := cs)
  rw [← this, hl]
  show ((if findI s cs < n then (findI s cs : Int) else -1) ≥ 0) ↔ findI s cs < n
  split <;> omega
def checkFrom : List Col → List Col → Int
  | _, [] => 0
  | pre, c :: r => if nameE (B c.1) ≠ 0 then 170 else if c.2.1 < 1 ∨ c.2.1 > 3 ∨ (pre.any fun d => decide (B d.1 = B c.1)) = true then 171 else checkFrom (pre ++ [c]) r
/-- What Check tells. -/
def checkC (cs : List Col) : Int := if cs.length < 1 ∨ cs.length > 16 then 171 else checkFrom [] cs
theorem nameE_cases (s : List UInt8) : nameE s = 0 ∨ nameE s = 170 := by unfold nameE; split <;> simp
theorem checkFrom_cases : ∀ (r pre : List Col), checkFrom pre r = 0 ∨ checkFrom pre r = 170 ∨ checkFrom pre r = 171
  | [], _ => .inl rfl
  | c :: r, pre => by
    unfold checkFrom
    split
    · exact .inr (.inl rfl)
    · split
      · exact .inr (.inr rfl)
      · exact checkFrom_cases r _
theorem checkC_cases (cs : List Col) : checkC cs = 0 ∨ checkC cs = 170 ∨ checkC cs = 171 := by
  unfold checkC
  split
  · exact .inr (.inr rfl)
  · exact checkFrom_cases _ _
theorem check_calls {w : World} {A : Option Addr} {n c : Nat} {cs : List Col} (h : Sli colE w A n cs) (hc : n ≤ c) :
    Calls Try.prog 11 #[.slice A n c] w (Ret fun v w' => v = .int .i64 (checkC cs) ∧ Ext w w') := by
  apply calls11
  unfold S11 checkC
  have hl := h.len
  refine splitW_i (fun h1 => ?_) (fun h1 => ?_)
  · have h1 := of_decide_eq_true h1
    rw [if_pos (by omega)]
    exact ⟨rfl, Ext.refl w⟩
  refine splitW_i (fun h2 => ?_) (fun h2 => ?_)
  · have h2 := of_decide_eq_true h2
    rw [if_pos (by omega)]
    exact ⟨rfl, Ext.refl w⟩
  have h1 := of_decide_eq_false h1
  have h2 := of_decide_eq_false h2
  rw [if_neg (by omega)]
  refine loopW_i (fun x w' => Ext w w' ∧ ∃ i : Nat, i ≤ n ∧ x = ((i : Int), ()) ∧ checkFrom [] cs = checkFrom (cs.take i) (cs.drop i)) (fun x => (n - x.1).toNat) ⟨Ext.refl w, 0, by omega, rfl, by simp⟩ ?_
  rintro _ w' ⟨he, i, hi, rfl, hf⟩
  dsimp only
  by_cases hlt : i < n
  · refine splitW_t (decide_eq_true (by omega)) ?_
    obtain ⟨col, hcol⟩ : ∃ col, col = cs[i] := ⟨_, rfl⟩
    have hdrop : cs.drop i = col :: cs.drop (i + 1) := by rw [hcol]; exact List.drop_eq_getElem_cons (by omega)
    have htake : cs.take (i + 1) = cs.take i ++ [col] := by rw [hcol]; exact List.take_succ_eq_append_getElem (by omega)
    have hx : cs[Int.toNat (i : Int)]? = some col := by rw [hcol]; simp
    rw [hdrop, checkFrom] at hf
    refine idx_el (h.ext he) (by omega) hx rfl ?_
    intro p hp hcell
    refine ldA_i (ls := [.str, (.int .i64), .bool]) (x := (col.1, col.2.1, col.2.2, ())) hcell ?_
    refine box_i (vs := [(.string col.1), (.int .i64 col.2.1), (.bool col.2.2)]) (by rfl) (colE.one col) ?_ (by rfl)
    intro r w1 hb he1 hr
    refine ldW_blk hb (by rfl) ?_
    refine callW_of (name_calls w1 col.1) ?_
    rintro _ w2 ⟨rfl, he2⟩
    refine ⟨_, rfl, ?_⟩
    have hb2 := hb.ext he2
    have he02 := (he.trans he1).trans he2
    refine splitW_i (fun hn => ?_) (fun hn => ?_)
    · have hn : nameE (B col.1) ≠ 0 := by simpa using hn
      rw [hf, if_pos hn]
      rcases nameE_cases (B col.1) with h0 | h0
      · exact absurd h0 hn
      · exact ⟨by rw [h0], he02⟩
    have hn : nameE (B col.1) = 0 := by simpa using hn
    rw [if_neg (by simp [hn])] at hf
    refine ld_blk (o := 1) hb2 (by rfl) ?_
    refine splitW_i (fun hk => ?_) (fun hk => ?_)
    · have hk := of_decide_eq_true hk
      rw [hf, if_pos (.inl hk)]
      exact ⟨rfl, he02⟩
    have hk := of_decide_eq_false hk
    refine ld_blk (o := 1) hb2 (by rfl) ?_
    refine splitW_i (fun hk2 => ?_) (fun hk2 => ?_)
    · have hk2 := of_decide_eq_true hk2
      rw [hf, if_pos (.inr (.inl hk2))]
      exact ⟨rfl, he02⟩
    have hk2 := of_decide_eq_false hk2
    refine ⟨⟨by omega, by omega⟩, ?_⟩
    rw [Int.toNat_natCast]
    have hcut := (h.cut0 (k := i) (m := c) (z := 3) rfl (by omega) (by omega)).ext he02
    have hcell2 : w2.cell? ⟨r, 0, none⟩ = some (.string col.1) := by rw [hb2.cell]; rfl
    refine callW_of (contains_calls (s := col.1) (g := 38) (by kernel_rfl) (fun w c a s h => check1_calls h) hcut hcell2) ?_
    rintro _ w3 ⟨rfl, he3⟩
    refine ⟨_, rfl, ?_⟩
    refine splitW_i (fun hd => ?_) (fun hd => ?_)
    · rw [hf, if_pos (.inr (.inr hd))]
      exact ⟨rfl, he02.trans he3⟩
    · rw [if_neg (by
        rintro (h3 | h3 | h3)
        · exact hk h3
        · exact hk2 h3
        · rw [h3] at hd; cases hd)] at hf
      rw [wrap_i64 (by omega) (by omega)]
      exact ⟨⟨he02.trans he3, i + 1, by omega, rfl, by rw [htake]; exact hf⟩, by omega⟩
  · obtain rfl : i = n := by omega
    refine splitW_f (decide_eq_false (by omega)) ?_
    rw [List.drop_of_length_le (by omega)] at hf
    exact ⟨by rw [hf]; rfl, he⟩
def lightCols (cs : List Col) : Bool := decide (cs.length ≤ 20) && cs.all fun c => decide ((B c.1).length ≤ 60)
theorem lightcols_calls {w : World} {A : Option Addr} {n c : Nat} {cs : List Col} (h : Sli colE w A n cs) :
    Calls Try.prog 10 #[.slice A n c] w (Ret fun v w' => v = .bool (lightCols cs) ∧ Ext w w') := by
  apply calls10
  unfold S10
  have hl := h.len
  have hle := h.le
  refine loopW_i (fun x w' => w' = w ∧ ∃ i : Nat, i ≤ n ∧ x = ((i : Int), ()) ∧ ∀ k c, k < i → cs[k]? = some c → (B c.1).length ≤ 60) (fun x => (n - x.1).toNat) ⟨rfl, 0, by omega, rfl, fun k c hk => by omega⟩ ?_
  rintro _ _ ⟨rfl, i, hi, rfl, hf⟩
  dsimp only
  by_cases hlt : i < n
  · refine splitW_t (decide_eq_true (by omega)) ?_
    obtain ⟨col, hcol⟩ : ∃ col, col = cs[i] := ⟨_, rfl⟩
    have hx : cs[i]? = some col := by rw [hcol]; exact List.getElem?_eq_getElem (by omega)
    refine idx_el h (by omega) (x := col) (by simpa using hx) rfl ?_
    intro p hp hcell
    refine ld_i (by have := hcell.1; rw [add_zero] at this; exact this) ?_
    have hs := B_size col.1
    refine splitW_i (fun hb => ?_) (fun hb => ?_)
    · have hb := of_decide_eq_true hb
      refine ⟨?_, Ext.refl _⟩
      congr 1
      symm
      unfold lightCols
      rw [Bool.and_eq_false_iff]
      right
      rw [Bool.eq_false_iff, ne_eq, List.all_eq_true]
      intro hall
      have := of_decide_eq_true (hall col (List.mem_of_getElem? hx))
      omega
    · have hb := of_decide_eq_false hb
      rw [wrap_i64 (by omega) (by omega)]
      refine ⟨⟨rfl, i + 1, by omega, rfl, fun k c hk hc => ?_⟩, by omega⟩
      by_cases hki : k = i
      · subst hki
        rw [hx] at hc
        injection hc with hc
        subst hc
        omega
      · exact hf k c (by omega) hc
  · obtain rfl : i = n := by omega
    refine splitW_f (decide_eq_false (by omega)) ?_
    refine ⟨?_, Ext.refl _⟩
    congr 1
    unfold lightCols
    have hall : (cs.all fun c => decide ((B c.1).length ≤ 60)) = true := by
      rw [List.all_eq_true]
      intro c hc
      obtain ⟨k, hk, rfl⟩ := List.mem_iff_getElem.1 hc
      exact decide_eq_true (hf k _ (by omega) (List.getElem?_eq_getElem hk))
    rw [hall, Bool.and_true, hl]
    exact decide_eq_decide.2 (by omega)
def colOK (c : Col) : Prop := nameE (B c.1) = 0 ∧ 1 ≤ c.2.1 ∧ c.2.1 ≤ 3
theorem checkFrom_ok : ∀ (r pre : List Col), checkFrom pre r = 0 → ∀ c ∈ r, colOK c
  | [], _, _, c, hc => by cases hc
  | d :: r, pre, h, c, hc => by
    unfold checkFrom at h
    split at h
    · cases h
    · rename_i h1
      split at h
      · cases h
      · rename_i h2
        rcases List.mem_cons.1 hc with rfl | hc
        · have : ¬ (c.2.1 < 1 ∨ c.2.1 > 3) := fun hh => h2 (by rcases hh with hh | hh; exact .inl hh; exact .inr (.inl hh))
          exact ⟨by omega, by omega, by omega⟩
        · exact checkFrom_ok r _ h c hc
theorem checkC_ok {cs : List Col} (h : checkC cs = 0) : (1 ≤ cs.length ∧ cs.length ≤ 16) ∧ checkFrom [] cs = 0 ∧ ∀ c ∈ cs, colOK c := by
  unfold checkC at h
  split at h
  · cases h
  · exact ⟨by omega, h, checkFrom_ok _ _ h⟩
theorem nameE_len {s : List UInt8} (h : nameE s = 0) : 1 ≤ s.length ∧ s.length ≤ 32 := by
  unfold nameE nameOK at h
  split at h
  · rename_i hh
    have := of_decide_eq_true hh
    exact ⟨this.1, this.2.1⟩
  · cases h
def kindB (c : Col) : UInt8 := if c.2.2 then UInt8.ofNat (c.2.1.toNat + 128) else UInt8.ofNat c.2.1.toNat
def colB (c : Col) : List UInt8 := kindB c :: UInt8.ofNat (B c.1).length :: B c.1
def bytesC (cs : List Col) : List UInt8 := UInt8.ofNat cs.length :: cs.flatMap colB
theorem length_colB {c : Col} (h : colOK c) : (colB c).length ≤ 34 := by
  have := nameE_len h.1
  simp [colB]; omega
theorem length_cols : ∀ {cs : List Col}, (∀ c ∈ cs, colOK c) → (cs.flatMap colB).length ≤ cs.length * 34
  | [], _ => by simp
  | c :: r, h => by
    have h1 := length_colB (h c List.mem_cons_self)
    have h2 := length_cols (cs := r) (fun c hc => h c (List.mem_cons_of_mem _ hc))
    simp only [List.flatMap_cons, List.length_append, List.length_cons]
    omega
/-- What Bytes tells. -/
def bytesR (cs : List Col) : List UInt8 × Int := if checkC cs = 0 then (bytesC cs, 0) else ([], checkC cs)
theorem bytes_calls {w : World} {A : Option Addr} {n c : Nat} {cs : List Col} (h : Sli colE w A n cs) (hc : n ≤ c) :
    Calls Try.prog 14 #[.slice A n c] w (Ret fun v w' => v = .tuple #[.string ⟨(bytesR cs).1.toArray⟩, .int .i64 (bytesR cs).2] ∧ Ext w w') := by
  apply calls14
  unfold S14
  have hl := h.len
  refine callW_of (check_calls h hc) ?_
  rintro _ w1 ⟨rfl, he1⟩
  refine ⟨_, rfl, ?_⟩
  unfold bytesR
  refine splitW_i (fun hn => ?_) (fun hn => ?_)
  · have hn : checkC cs ≠ 0 := by simpa using hn
    rw [if_neg hn]
    exact ⟨rfl, he1⟩
  have hn : checkC cs = 0 := by simpa using hn
  rw [if_pos hn]
  obtain ⟨hlen, _, hok⟩ := checkC_ok hn
  apply newW_i
  have e0 : #[Value.int .u8 (IntKind.wrap .u8 ((n : Nat) : Int))] = (bV [UInt8.ofNat cs.length]).toArray := by rw [wrap_u8_nat, hl]; rfl
  rw [e0]
  have ho0 : Own 5 (w1.alloc (.cells (bV [UInt8.ofNat cs.length]).toArray 5)) w.heap.size (some ⟨w1.heap.size, 0, none⟩) 1 1 (bV [UInt8.ofNat cs.length]) := Own.lit (cs := (bV [UInt8.ofNat cs.length]).toArray) he1.size (by simp [bV])
  have he2 := he1.alloc (.cells (bV [UInt8.ofNat cs.length]).toArray 5)
  generalize w1.alloc (.cells (bV [UInt8.ofNat cs.length]).toArray 5) = w2 at ho0 he2 ⊢
  refine loopW_i (fun x w' => Ext w w' ∧ ∃ (i : Nat) (A' : Option Addr) (m c' : Nat), i ≤ n ∧ x = ((A', m, c'), (i : Int), ()) ∧ Own 5 w' w.heap.size A' m c' (bV (UInt8.ofNat cs.length :: (cs.take i).flatMap colB))) (fun x => (n - x.2.1).toNat) ⟨he2, 0, _, 1, 1, by omega, rfl, by simpa using ho0⟩ ?_
  rintro _ w' ⟨he, i, A', m, c', hi, rfl, ho⟩
  dsimp only
  have hm := ho.sl.blen
  have hlb : (UInt8.ofNat cs.length :: (cs.take i).flatMap colB).length ≤ 600 := by
    have := length_cols (cs := cs.take i) (fun c hc => hok c (List.mem_of_mem_take hc))
    have h2 : (cs.take i).length ≤ 16 := by simp; omega
    have := Nat.mul_le_mul_right 34 h2
    simp only [List.length_cons]
    omega
  by_cases hlt : i < n
  · refine splitW_t (decide_eq_true (by omega)) ?_
    obtain ⟨col, hcol⟩ : ∃ col, col = cs[i] := ⟨_, rfl⟩
    have hmem : col ∈ cs := by rw [hcol]; exact List.getElem_mem _
    have htake : cs.take (i + 1) = cs.take i ++ [col] := by rw [hcol]; exact List.take_succ_eq_append_getElem (by omega)
    have hx : cs[Int.toNat (i : Int)]? = some col := by rw [hcol]; simp
    obtain ⟨hk0, hk1, hk2⟩ := hok col hmem
    have hname := nameE_len hk0
    have hns := B_size col.1
    refine idx_el (h.ext he) (by omega) hx rfl ?_
    intro p hp hcell
    refine ldA_i (ls := [.str, (.int .i64), .bool]) (x := (col.1, col.2.1, col.2.2, ())) hcell ?_
    refine box_i (vs := [(.string col.1), (.int .i64 col.2.1), (.bool col.2.2)]) (by rfl) (colE.one col) ?_ (by rfl)
    intro r w3 hb he3 hr
    refine ld_blk (o := 1) hb (by rfl) ?_
    refine ld_blk (o := 2) hb (by rfl) ?_
    have tail : ∀ (kb : Int) , kb = ((kindB col).toNat : Int) → (drewW <|
        ldW .str (⟨r, 0, none⟩ : Addr) fun (u15 : ByteArray) =>
        ldW .str (⟨r, 0, none⟩ : Addr) fun (u16 : ByteArray) =>
        newW (.cells #[(.int .u8 kb), (.int .u8 (IntKind.wrap .u8 ((u15.size : Nat) : Int)))] 5) fun (r17 : Nat) =>
        heldW [[((⟨r, 0, none⟩ : Addr), (.string u16))]] <|
        runW Try.prog (Builtin.append_ #[64, 64] 64 #[(.slice A' m c'), (.slice (some (⟨r17, 0, none⟩ : Addr)) 2 2)]) .slc fun (u18 : (Option Addr × Nat × Nat)) =>
        heldW [[((⟨r, 0, none⟩ : Addr), (.string u16))]] <|
        runW Try.prog (Builtin.append_ #[64, 9] 64 #[(.slice u18.1 u18.2.1 u18.2.2), (.string u16)]) .slc fun (u19 : (Option Addr × Nat × Nat)) => fun w' => (Ext w w' ∧ ∃ (i' : Nat) (A' : Option Addr) (m c' : Nat), i' ≤ n ∧ (((u19.1, u19.2.1, u19.2.2), IntKind.wrap .i64 ((i : Int) + 1), ()) : (Option Addr × Nat × Nat) × Int × Unit) = ((A', m, c'), (i' : Int), ()) ∧ Own 5 w' w.heap.size A' m c' (bV (UInt8.ofNat cs.length :: (cs.take i').flatMap colB))) ∧ (n - IntKind.wrap .i64 ((i : Int) + 1)).toNat < (n - (i : Int)).toNat) w3 := by
      rintro kb rfl
      show (ldW _ _ _) w3.drew
      have he3' : Ext w' w3.drew := he3.drew
      have hb' : Blk w3.drew r [(.string col.1), (.int .i64 col.2.1), (.bool col.2.2)] 31 := hb
      generalize w3.drew = w4 at he3' hb' ⊢
      refine ldW_blk hb' (by rfl) ?_
      refine ldW_blk hb' (by rfl) ?_
      rw [wrap_u8_nat]
      have he4 := he.trans he3'
      have ho4 := ho.ext he3'
      have e1 : (#[.int .u8 ((kindB col).toNat : Int), .int .u8 ((UInt8.ofNat col.1.size).toNat : Int)] : Array Value) = (bV [kindB col, UInt8.ofNat (B col.1).length]).toArray := by rw [hns]; rfl
      rw [e1]
      apply newW_i
      have hblk : Blk (w4.alloc (.cells (bV [kindB col, UInt8.ofNat (B col.1).length]).toArray 5)) w4.heap.size (bV [kindB col, UInt8.ofNat (B col.1).length]) 5 := by simpa using Blk.new w4 (bV [kindB col, UInt8.ofNat (B col.1).length]).toArray 5
      have hal : Ext w4 (w4.alloc (.cells (bV [kindB col, UInt8.ofNat (B col.1).length]).toArray 5)) := (Ext.refl w4).alloc _
      have held : ∀ {w5 : World} {K : WP}, Blk w5 r [(.string col.1), (.int .i64 col.2.1), (.bool col.2.2)] 31 → K w5 → heldW [[((⟨r, 0, none⟩ : Addr), (.string col.1))]] K w5 := fun {w5 K} hb hk => ⟨fun l hl p hp => by
        simp only [List.mem_singleton] at hl
        subst hl
        simp only [List.mem_singleton] at hp
        subst hp
        rw [hb.cell]
        rfl, hk⟩
      have hb5 := hb'.ext hal
      have ho5 := ho4.ext hal
      have he5 := he4.trans hal
      generalize w4.alloc (.cells (bV [kindB col, UInt8.ofNat (B col.1).length]).toArray 5) = w5 at *
      refine held hb5 ?_
      refine append_sl elem_u8 ho5 he5.size (Sl.of_blk hblk rfl (by omega)) (bV_one _) (by omega) (by omega) ?_
      intro A6 c6 w6 ho6 hg6 _
      rw [← bV_append] at ho6
      have hrne : orow A' ≠ some r := fun hh => by
        have h1 := World.ownsRow.lt ho r (by rw [orow_eq]; exact hh)
        omega
      have hb6 : Blk w6 r [(.string col.1), (.int .i64 col.2.1), (.bool col.2.2)] 31 := hb5.grown hg6.grown (fun hh => hrne hh.symm)
      have he6 := he5.grown hg6.grown ho5.row'
      refine held hb6 ?_
      dsimp only
      have hm6 := ho6.sl.blen
      refine append_str elem_u8 (by kernel_rfl) ho6 he6.size (by omega) ?_
      intro A7 c7 w7 ho7 hg7
      have he7 := he6.grown hg7.grown ho6.row'
      rw [wrap_i64 (by omega) (by omega)]
      refine ⟨⟨he7, i + 1, A7, _, c7, by omega, rfl, ?_⟩, by omega⟩
      have e2 : UInt8.ofNat cs.length :: (cs.take (i + 1)).flatMap colB = (UInt8.ofNat cs.length :: (cs.take i).flatMap colB ++ [kindB col, UInt8.ofNat (B col.1).length]) ++ B col.1 := by
        rw [htake]
        simp [colB]
      rw [e2]
      exact ho7
    have hkn : IntKind.wrap .u8 col.2.1 = ((col.2.1.toNat : Nat) : Int) := by rw [wrap_u8]; omega
    refine splitW_i (fun hnull => ?_) (fun hnull => ?_)
    · refine tail _ ?_
      rw [hkn, show (128 : Int) = ((128 : Nat) : Int) from rfl, ior_nat (k := .u8) rfl (by simp [IntKind.bits]; omega) (by simp [IntKind.bits])]
      unfold kindB
      rw [hnull, if_pos rfl]
      have : col.2.1.toNat = 1 ∨ col.2.1.toNat = 2 ∨ col.2.1.toNat = 3 := by omega
      rcases this with h | h | h <;> rw [h] <;> rfl
    · refine tail _ ?_
      rw [hkn]
      unfold kindB
      have : col.2.1.toNat = 1 ∨ col.2.1.toNat = 2 ∨ col.2.1.toNat = 3 := by omega
      rw [hnull, if_neg (by simp)]
      rcases this with h | h | h <;> rw [h] <;> rfl
  · obtain rfl : i = n := by omega
    refine splitW_f (decide_eq_false (by omega)) ?_
    rw [List.take_of_length_le (by omega)] at ho
    refine conv_str (e := 5) (by kernel_rfl) (by kernel_rfl) (by kernel_rfl) ho.sl ?_
    exact ⟨rfl, he⟩
end Go.Proofs.Ytiihdgodghaobaa.V
