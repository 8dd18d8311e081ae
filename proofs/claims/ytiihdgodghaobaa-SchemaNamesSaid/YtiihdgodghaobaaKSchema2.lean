/- Contracts of schema.Read and what goes with it. -/
import Derived.Test.YtiihdgodghaobaaKSchema
set_option linter.unusedVariables false
set_option linter.unusedSimpArgs false
namespace Go.Proofs.Ytiihdgodghaobaa.V
open Go Go.Proofs

theorem elem_col : ElemK Try.prog 22 31 (.agg #[.string ByteArray.empty, .int .i64 0, .bool false]) colE.k 32 := by
  refine ⟨by kernel_rfl, by kernel_rfl, rfl⟩
theorem iandn128 : ∀ x : Fin 256, iandn .u8 (x.val : Int) 128 = ((x.val % 128 : Nat) : Int) := by decide +kernel
theorem iand128 : ∀ x : Fin 256, ((iand .u8 (x.val : Int) 128) != 0) = decide (128 ≤ x.val) := by decide +kernel
/-- The column that begins bytes, and what stands behind. -/
def colR (s : List UInt8) : Option (Col × List UInt8) :=
  if s.length < 2 ∨ s.length - 2 < (s.getD 1 0).toNat then none
  else some ((⟨((s.drop 2).take (s.getD 1 0).toNat).toArray⟩, (((s.getD 0 0).toNat % 128 : Nat) : Int), decide (128 ≤ (s.getD 0 0).toNat)), s.drop (2 + (s.getD 1 0).toNat))
def readN : Nat → List UInt8 → Option (List Col × List UInt8)
  | 0, s => some ([], s)
  | n + 1, s => match colR s with
    | none => none
    | some (c, r) => match readN n r with
      | none => none
      | some (cs, r') => some (c :: cs, r')
/-- What Read tells. -/
def readR : List UInt8 → Option (List Col × List UInt8)
  | [] => none
  | b :: r => match readN b.toNat r with
    | none => none
    | some (cs, r') => if checkC cs = 0 then some (cs, r') else none
theorem readN_more {n i : Nat} {r0 rest : List UInt8} {acc : List Col} (hi : i < n) {c : Col} {r : List UInt8} (hc : colR rest = some (c, r))
    (h : readN n r0 = (readN (n - i) rest).map fun p => (acc ++ p.1, p.2)) : readN n r0 = (readN (n - (i + 1)) r).map fun p => ((acc ++ [c]) ++ p.1, p.2) := by
  rw [h, show n - i = (n - (i + 1)) + 1 by omega, readN, hc]
  simp only
  cases readN (n - (i + 1)) r with
  | none => rfl
  | some p => simp
theorem readN_stop {n i : Nat} {r0 rest : List UInt8} {acc : List Col} (hi : i < n) (hc : colR rest = none)
    (h : readN n r0 = (readN (n - i) rest).map fun p => (acc ++ p.1, p.2)) : readN n r0 = none := by
  rw [h, show n - i = (n - (i + 1)) + 1 by omega, readN, hc]
  rfl
abbrev RdT := (Option Addr × Nat × Nat) × ByteArray × Int × Unit
/-- What Read hands back. -/
def RdRes (w : World) (R : Option (List Col × List UInt8)) (x : RdT) (w' : World) : Prop :=
  (match R with
   | none => x = ((none, 0, 0), ⟨#[]⟩, 171, ())
   | some (cs, r) => Owni colE 31 w' w.heap.size x.1.1 x.1.2.1 x.1.2.2 cs ∧ x.2.1 = ⟨r.toArray⟩ ∧ x.2.2.1 = 0) ∧ Ext w w'
def colX : Option (Col × List UInt8) → (ByteArray × Int × Bool × Unit) × ByteArray × Bool × Unit
  | none => ((ByteArray.empty, 0, false, ()), ⟨#[]⟩, false, ())
  | some (c, r) => ((c.1, c.2.1, c.2.2, ()), ⟨r.toArray⟩, true, ())
theorem col_calls (w : World) (s : ByteArray) (hsmall : s.size ≤ 9223372036854775807) : Calls Try.prog 41 #[.string s] w (Ret fun v w' => v = Rs.val (.many [.agg [.str, .int .i64, .bool], .one .str, .one .bool]) (colX (colR (B s))) ∧ Ext w w') := by
  apply calls41
  unfold S41
  have hsz := B_size s
  apply newW_i
  have hb : Blk (w.alloc (.cells #[(.string ByteArray.empty), (.int .i64 (0 : Int)), (.bool false)] 31)) w.heap.size [(.string ByteArray.empty), (.int .i64 (0 : Int)), (.bool false)] 31 := Blk.new w _ _
  have he : Ext w (w.alloc (.cells #[(.string ByteArray.empty), (.int .i64 (0 : Int)), (.bool false)] 31)) := (Ext.refl w).alloc _
  have hB : w.heap.size ≤ w.heap.size := Nat.le_refl _
  generalize w.alloc (.cells #[(.string ByteArray.empty), (.int .i64 (0 : Int)), (.bool false)] 31) = w1 at hb he ⊢
  generalize hbk : w.heap.size = blk at hb hB ⊢
  have put : ∀ {K : (ByteArray × Int × Bool × Unit) → WP} {w2 : World} (c : Col), Blk w2 blk [(.string ByteArray.empty), (.int .i64 (0 : Int)), (.bool false)] 31 → Ext w w2 → (∀ w', Ext w w' → K (c.1, c.2.1, c.2.2, ()) w') →
      (guardW ((#[(.string c.1), (.int .i64 c.2.1), (.bool c.2.2)] : Array Value).size = 3) <|
      stAW (⟨blk, 0, none⟩ : Addr) [(.string c.1), (.int .i64 c.2.1), (.bool c.2.2)] <|
      ldAW [.str, (.int .i64), .bool] (⟨blk, 0, none⟩ : Addr) K) w2 := by
    intro K w2 c hb2 he2 hK
    refine ⟨rfl, hb2.storable_from _ 0 (by simp) (colE.one c), ?_⟩
    have hb3 := hb2.setCells [(.string c.1), (.int .i64 c.2.1), (.bool c.2.2)] rfl
    exact ldA_blk (ls := [.str, (.int .i64), .bool]) (x := (c.1, c.2.1, c.2.2, ())) hb3 rfl (hK _ (he2.setCells (by rw [hbk]; exact hB) _ _))
  refine splitW_i (fun h => ?_) (fun h1 => ?_)
  · have hn : colR (B s) = none := by
      have := of_decide_eq_true h
      unfold colR
      rw [if_pos (.inl (by omega))]
    rw [hn]
    exact put (ByteArray.empty, 0, false) hb he (fun w' he' => ⟨rfl, he'⟩)
  have h1 := of_decide_eq_false h1
  refine ⟨⟨by omega, by omega⟩, ?_⟩
  have hb1 : bt s 1 = (((B s).getD 1 0).toNat : Int) := by rw [bt_eq (by omega) (by omega)]; rfl
  have hb0 : bt s 0 = (((B s).getD 0 0).toNat : Int) := by rw [bt_eq (by omega) (by omega)]; rfl
  have hl1 := ((B s).getD 1 0).toNat_lt
  have hl0 := ((B s).getD 0 0).toNat_lt
  rw [hb1, hb0]
  rw [wrap_i64 (x := (s.size : Int) - 2) (by omega) (by omega), wrap_i64 (x := (((B s).getD 1 0).toNat : Int)) (by omega) (by omega), wrap_i64 (x := 2 + (((B s).getD 1 0).toNat : Int)) (by omega) (by omega)]
  refine splitW_i (fun h2 => ?_) (fun h2 => ?_)
  · have hn : colR (B s) = none := by
      have := of_decide_eq_true h2
      unfold colR
      rw [if_pos (.inr (by omega))]
    rw [hn]
    exact put (ByteArray.empty, 0, false) hb he (fun w' he' => ⟨rfl, he'⟩)
  have h2 := of_decide_eq_false h2
  refine ⟨⟨by omega, by omega⟩, ?_⟩
  have he' := he.drew
  have hb' := hb.drew
  show (guardW _ _) w1.drew
  generalize w1.drew = w2 at he' hb' ⊢
  refine ⟨⟨by omega, by omega, by omega⟩, ⟨by omega, by omega⟩, ⟨by omega, by omega⟩, ⟨by omega, by omega⟩, ?_⟩
  have hs : colR (B s) = some ((⟨(((B s).drop 2).take ((B s).getD 1 0).toNat).toArray⟩, ((((B s).getD 0 0).toNat % 128 : Nat) : Int), decide (128 ≤ ((B s).getD 0 0).toNat)), (B s).drop (2 + ((B s).getD 1 0).toNat)) := by
    unfold colR
    rw [if_neg (by omega)]
  rw [hs]
  have i1 := iandn128 ⟨((B s).getD 0 0).toNat, hl0⟩
  have i2 := iand128 ⟨((B s).getD 0 0).toNat, hl0⟩
  simp only at i1 i2
  rw [i1, i2, wrap_i64 (x := ((((B s).getD 0 0).toNat % 128 : Nat) : Int)) (by omega) (by omega)]
  have ex1 : s.extract (Int.toNat 2) (Int.toNat (2 + (((B s).getD 1 0).toNat : Int))) = ⟨(((B s).drop 2).take ((B s).getD 1 0).toNat).toArray⟩ := by
    apply B_inj
    rw [B_extract, B_mk]
    congr 1
    omega
  have ex2 : s.extract (Int.toNat (2 + (((B s).getD 1 0).toNat : Int))) s.size = ⟨((B s).drop (2 + ((B s).getD 1 0).toNat)).toArray⟩ := by
    apply B_inj
    rw [B_extract, show (2 + (((B s).getD 1 0).toNat : Int)).toNat = 2 + ((B s).getD 1 0).toNat by omega]
    show _ = (B s).drop (2 + ((B s).getD 1 0).toNat)
    exact List.take_of_length_le (by simp; omega)
  rw [ex1, ex2]
  exact put (⟨(((B s).drop 2).take ((B s).getD 1 0).toNat).toArray⟩, ((((B s).getD 0 0).toNat % 128 : Nat) : Int), decide (128 ≤ ((B s).getD 0 0).toNat)) hb' he' (fun w' he' => ⟨rfl, he'⟩)
/-- Columns that are the same. -/
def colEq (a b : Col) : Bool := decide (B a.1 = B b.1) && (a.2.1 == b.2.1 && (a.2.2 == b.2.2 && true))
theorem colEq_iff {a b : Col} : colEq a b = true ↔ a = b := by
  unfold colEq
  simp only [Bool.and_eq_true, decide_eq_true_eq, beq_iff_eq, and_true]
  constructor
  · rintro ⟨h1, h2, h3⟩
    exact Prod.ext (B_inj h1) (Prod.ext h2 h3)
  · rintro rfl
    exact ⟨rfl, rfl, rfl⟩
theorem fields_col (w : World) (a b : Col) : (Op.eqFields 9999 #[.string a.1, .int .i64 a.2.1, .bool a.2.2] #[.string b.1, .int .i64 b.2.1, .bool b.2.2] (Try.prog.fieldsOf 31).toList).run Try.prog w = .ok (colEq a b) w := by
  have hf : (Try.prog.fieldsOf 31).toList = [(Try.prog.fieldsOf 31).getD 0 default, (Try.prog.fieldsOf 31).getD 1 default, (Try.prog.fieldsOf 31).getD 2 default] := by kernel_rfl
  rw [hf]
  unfold colEq
  rw [← str_beq]
  refine eqFields_step (of_decide_eq_true (by kernel_rfl)) (a := .string a.1) (b := .string b.1) (by kernel_rfl) (by kernel_rfl) (run_equalIn_string w 9998 _ _ _ (by kernel_rfl)) ?_
  refine eqFields_step (of_decide_eq_true (by kernel_rfl)) (a := .int .i64 a.2.1) (b := .int .i64 b.2.1) (by kernel_rfl) (by kernel_rfl) (run_equalIn_int w 9998 _ .i64 .i64 _ _ (by kernel_rfl)) ?_
  refine eqFields_step (of_decide_eq_true (by kernel_rfl)) (a := .bool a.2.2) (b := .bool b.2.2) (by kernel_rfl) (by kernel_rfl) (run_equalIn_bool' w 9998 _ _ _ (by kernel_rfl)) ?_
  rfl
theorem neq_col (w : World) (a b : Col) (x y : Operand) : (eqS .neq 31 x y (.agg #[.string a.1, .int .i64 a.2.1, .bool a.2.2]) (.agg #[.string b.1, .int .i64 b.2.1, .bool b.2.2])).run Try.prog w = .ok (.bool (!(colEq a b))) w :=
  eqS_neq (by kernel_rfl) (by kernel_rfl) (by kernel_rfl) (fields_col w a b)
theorem eql_col (w : World) (a b : Col) (x y : Operand) : (eqS .eql 31 x y (.agg #[.string a.1, .int .i64 a.2.1, .bool a.2.2]) (.agg #[.string b.1, .int .i64 b.2.1, .bool b.2.2])).run Try.prog w = .ok (.bool (colEq a b)) w :=
  eqS_eql (by kernel_rfl) (by kernel_rfl) (by kernel_rfl) (fields_col w a b)
theorem samecols_calls {w : World} {A A2 : Option Addr} {n c n2 c2 : Nat} {xs ys : List Col} (h : Sli colE w A n xs) (h2 : Sli colE w A2 n2 ys) :
    Calls Try.prog 16 #[.slice A n c, .slice A2 n2 c2] w (Ret fun v w' => (∃ b : Bool, v = .bool b ∧ (b = true ↔ xs = ys)) ∧ Ext w w') := by
  apply calls16
  unfold S16
  have l1 := h.len
  have l2 := h2.len
  have hle := h.le
  by_cases hl : n = n2
  · subst hl
    refine splitW_f (by simp) ?_
    refine loopW_i (fun x w' => Ext w w' ∧ ∃ i : Nat, i ≤ n ∧ x = ((i : Int), ()) ∧ xs.take i = ys.take i) (fun x => (n - x.1).toNat) ⟨Ext.refl w, 0, by omega, rfl, by simp⟩ ?_
    rintro _ w' ⟨he, i, hi, rfl, ht⟩
    dsimp only
    by_cases hlt : i < n
    · refine splitW_t (decide_eq_true (by omega)) ?_
      have he' := he.drew
      show (guardW _ _) w'.drew
      generalize w'.drew = w1 at he' ⊢
      refine idx_el (h.ext he') (by omega) (x := xs[i]'(by omega)) (by simp) rfl ?_
      intro p1 hp1 hc1
      refine ldA_i (ls := [.str, (.int .i64), .bool]) (x := ((xs[i]'(by omega)).1, (xs[i]'(by omega)).2.1, (xs[i]'(by omega)).2.2, ())) hc1 ?_
      refine idx_el (h2.ext he') (by omega) (x := ys[i]'(by omega)) (by simp) rfl ?_
      intro p2 hp2 hc2
      refine ldA_i (ls := [.str, (.int .i64), .bool]) (x := ((ys[i]'(by omega)).1, (ys[i]'(by omega)).2.1, (ys[i]'(by omega)).2.2, ())) hc2 ?_
      refine ⟨_, fun w' => neq_col w' (xs[i]'(by omega)) (ys[i]'(by omega)) _ _, ?_⟩
      refine splitW_i (fun hne => ?_) (fun heq => ?_)
      · refine ⟨⟨false, rfl, ?_⟩, he'⟩
        simp only [Bool.false_eq_true, false_iff]
        rintro rfl
        rw [colEq_iff.2 rfl] at hne
        cases hne
      · have heq : xs[i]'(by omega) = ys[i]'(by omega) := colEq_iff.1 (by simpa using heq)
        refine ⟨⟨he', i + 1, by omega, ?_, ?_⟩, by rw [wrap_i64_nat (by omega) (by omega)]; omega⟩
        · rw [wrap_i64_nat (by omega) (by omega)]; rfl
        · rw [List.take_succ_eq_append_getElem (by omega), List.take_succ_eq_append_getElem (by omega), ht, heq]
    · refine splitW_f (decide_eq_false (by omega)) ?_
      refine ⟨⟨true, rfl, ?_⟩, he⟩
      rw [List.take_of_length_le (by omega), List.take_of_length_le (by omega)] at ht
      simp [ht]
  · refine splitW_t (by simp; omega) ?_
    refine ⟨⟨false, rfl, ?_⟩, Ext.refl w⟩
    simp only [Bool.false_eq_true, false_iff]
    rintro rfl
    omega
theorem read_calls {w : World} {s : ByteArray} (hsmall : s.size ≤ 9223372036854775807) : Calls Try.prog 15 #[.string s] w (Ret fun v w' => ∃ x : RdT, v = Rs.val (.many [.one .slc, .one .str, .one (.int .i64)]) x ∧ RdRes w (readR (B s)) x w') := by
  apply calls15
  unfold S15
  have hsz := B_size s
  have none_ : ∀ {w'}, readR (B s) = none → Ext w w' → ∃ x : RdT, Value.tuple #[(.slice none 0 0), (.string (ByteArray.mk #[])), (.int .i64 (171 : Int))] = Rs.val (.many [.one .slc, .one .str, .one (.int .i64)]) x ∧ RdRes w (readR (B s)) x w' := fun {w'} h he => ⟨((none, 0, 0), ⟨#[]⟩, 171, ()), rfl, by rw [h]; exact ⟨rfl, he⟩⟩
  refine splitW_i (fun h => ?_) (fun h => ?_)
  · rw [str_beq] at h
    have hB : B s = [] := of_decide_eq_true h
    exact none_ (by rw [hB]; rfl) (Ext.refl w)
  rw [str_beq] at h
  have hB : B s ≠ [] := of_decide_eq_false h
  obtain ⟨b, r0, hs⟩ : ∃ b r0, B s = b :: r0 := by
    cases hh : B s with
    | nil => exact absurd hh hB
    | cons b r => exact ⟨b, r, rfl⟩
  have hl : (B s).length = r0.length + 1 := by rw [hs]; rfl
  have he0 : Ext w w.drew := (Ext.refl w).drew
  show (guardW _ _) w.drew
  generalize w.drew = w0 at he0 ⊢
  refine ⟨⟨by omega, by omega⟩, ⟨by omega, by omega⟩, ?_⟩
  have hb0 : bt s 0 = (b.toNat : Int) := by rw [bt_eq (by omega) (by omega), hs]; rfl
  have hlt := b.toNat_lt
  rw [hb0, wrap_i64 (by omega) (by omega)]
  have ex : s.extract (Int.toNat 1) s.size = ⟨r0.toArray⟩ := by
    apply B_inj
    rw [B_extract, hs]
    show _ = r0
    exact List.take_of_length_le (by simp; omega)
  rw [ex]
  refine loopW_i (fun x w' => Ext w w' ∧ ∃ (i : Nat) (acc : List Col) (rest : ByteArray) (A : Option Addr) (m c : Nat), i ≤ b.toNat ∧ x = ((A, m, c), rest, (i : Int), ()) ∧ Owni colE 31 w' w.heap.size A m c acc ∧ acc.length = i ∧ rest.size ≤ 9223372036854775807 ∧ readN b.toNat r0 = (readN (b.toNat - i) (B rest)).map fun p => (acc ++ p.1, p.2))
    (fun x => (b.toNat - x.2.2.1).toNat) ⟨he0, 0, [], ⟨r0.toArray⟩, none, 0, 0, by omega, rfl, Owni.nil _ _ _, rfl, by rw [B_size, B_mk]; omega, by rw [B_mk, Nat.sub_zero]; cases readN b.toNat r0 <;> simp⟩ ?_
  rintro _ w' ⟨he, i, acc, rest, A, m, c, hi, rfl, ho, hacc, hrs, hrd⟩
  dsimp only
  have hm := ho.len
  by_cases hlt : i < b.toNat
  · refine splitW_t (decide_eq_true (by omega)) ?_
    refine callW_of (col_calls w' rest hrs) ?_
    rintro _ w1 ⟨rfl, he1⟩
    refine ⟨_, rfl, ?_⟩
    cases hcol : colR (B rest) with
    | none =>
      refine box_i (vs := [(.string ByteArray.empty), (.int .i64 (0 : Int)), (.bool false)]) (by rfl) (colE.one (ByteArray.empty, 0, false)) ?_ (by rfl)
      intro r w2 hb he2 hr
      refine splitW_t (by rfl) ?_
      refine none_ ?_ ((he.trans he1).trans he2)
      rw [hs, readR, readN_stop hlt hcol hrd]
    | some p =>
      obtain ⟨col, rest'⟩ := p
      refine box_i (vs := [(.string col.1), (.int .i64 col.2.1), (.bool col.2.2)]) (by rfl) (colE.one col) ?_ (by rfl)
      intro r w2 hb he2 hr
      refine splitW_f (by rfl) ?_
      refine ldA_blk (ls := [.str, (.int .i64), .bool]) (x := (col.1, col.2.1, col.2.2, ())) hb rfl ?_
      have he02 := (he.trans he1).trans he2
      refine append_newi (E := colE) (ys := [col]) (by rfl) rfl elem_col (ho.ext (he1.trans he2)) he02.size (by omega) (by omega) ?_
      intro A3 c3 w3 ho3 hg3
      dsimp only
      rw [wrap_i64 (by omega) (by omega)]
      have hrl : rest'.length ≤ (B rest).length := by
        unfold colR at hcol
        split at hcol
        · cases hcol
        · injection hcol with hcol
          injection hcol with _ hcol
          rw [← hcol]
          simp
      refine ⟨⟨he02.grown hg3.grown (ho.ext (he1.trans he2)).row, i + 1, acc ++ [col], ⟨rest'.toArray⟩, A3, _, c3, by omega, rfl, ho3, by simp [hacc], ?_, ?_⟩, by omega⟩
      · rw [B_size, B_mk]; have := B_size rest; omega
      · rw [B_mk]; exact readN_more hlt hcol hrd
  · obtain rfl : i = b.toNat := by omega
    refine splitW_f (decide_eq_false (by omega)) ?_
    rw [Nat.sub_self] at hrd
    have hrd2 : readN b.toNat r0 = some (acc, B rest) := by rw [hrd]; simp [readN]
    refine callW_of (check_calls ho.sl (by have := ho.le; omega)) ?_
    rintro _ w1 ⟨rfl, he1⟩
    refine ⟨_, rfl, ?_⟩
    refine splitW_i (fun hck => ?_) (fun hck => ?_)
    · have hck : checkC acc ≠ 0 := by simpa using hck
      refine none_ ?_ (he.trans he1)
      rw [hs, readR, hrd2]
      simp only
      rw [if_neg hck]
    · have hck : checkC acc = 0 := by simpa using hck
      have hres : readR (B s) = some (acc, B rest) := by
        rw [hs, readR, hrd2]
        simp only
        rw [if_pos hck]
      refine ⟨((A, m, c), rest, 0, ()), rfl, ?_⟩
      rw [hres]
      exact ⟨⟨ho.ext he1, rfl, rfl⟩, he.trans he1⟩
end Go.Proofs.Ytiihdgodghaobaa.V
