/- Contracts of the package counts. -/
import Derived.Test.YtmogbadaoaikcaaKKit
import Derived.Test.YtmogbadaoaikcaaStr
set_option linter.unusedVariables false
set_option linter.unusedSimpArgs false
namespace Go.Proofs.Ytmogbadaoaikcaa.V
open Go Go.Proofs Go.RowKit

/-- A geometry that may be. -/
def geoOK (size blocks : Int) : Bool := decide (128 ≤ size ∧ size ≤ 4096 ∧ Int.tmod size 64 = 0 ∧ 8 ≤ blocks ∧ blocks ≤ 4096)
theorem devcheck_calls (w : World) (size blocks : Int) : Calls Try.prog 27 #[.agg #[.int .i64 size, .int .i64 blocks]] w (Ret fun v w' => v = .int .i64 (if geoOK size blocks then 0 else 2) ∧ Ext w w') := by
  apply calls27
  unfold S27
  apply newW_i
  have hb : Blk (w.alloc (.cells #[(.int .i64 size), (.int .i64 blocks)] 23)) w.heap.size [(.int .i64 size), (.int .i64 blocks)] 23 := Blk.new w _ _
  have he : Ext w (w.alloc (.cells #[(.int .i64 size), (.int .i64 blocks)] 23)) := (Ext.refl w).alloc _
  generalize w.alloc (.cells #[(.int .i64 size), (.int .i64 blocks)] 23) = w1 at hb he ⊢
  have bad : ¬ (128 ≤ size ∧ size ≤ 4096 ∧ Int.tmod size 64 = 0 ∧ 8 ≤ blocks ∧ blocks ≤ 4096) → (Value.int .i64 2 = .int .i64 (if geoOK size blocks then 0 else 2) ∧ Ext w w1) := fun h => by
    unfold geoOK
    rw [decide_eq_false h]
    exact ⟨rfl, he⟩
  refine ldW_blk hb (by rfl) ?_
  refine splitW_i (fun h => bad (by have := of_decide_eq_true h; omega)) (fun h1 => ?_)
  refine ldW_blk hb (by rfl) ?_
  refine splitW_i (fun h => bad (by have := of_decide_eq_true h; omega)) (fun h2 => ?_)
  refine ldW_blk hb (by rfl) ?_
  refine splitW_i (fun h => bad (by rw [bne_iff_ne] at h; exact fun hh => h hh.2.2.1)) (fun h3 => ?_)
  refine ld_blk (o := 1) hb (by rfl) ?_
  refine splitW_i (fun h => bad (by have := of_decide_eq_true h; omega)) (fun h4 => ?_)
  refine ld_blk (o := 1) hb (by rfl) ?_
  refine splitW_i (fun h => bad (by have := of_decide_eq_true h; omega)) (fun h5 => ?_)
  have h1 := of_decide_eq_false h1
  have h2 := of_decide_eq_false h2
  have h3 : Int.tmod size 64 = 0 := by simpa using h3
  have h4 := of_decide_eq_false h4
  have h5 := of_decide_eq_false h5
  unfold geoOK
  rw [decide_eq_true ⟨by omega, by omega, h3, by omega, by omega⟩]
  exact ⟨rfl, he⟩
def uV (k : IntKind) (l : List Nat) : List Value := l.map fun (n : Nat) => Value.int k ((n : Nat) : Int)
/-- A Counts: its block b, the row r of its counts. -/
structure Cnt (w : World) (b r : Nat) (size : Int) (q : List Value) (l : List Nat) : Prop where
  head : Blk w b [.int .i64 size, .int .i64 (l.length : Int), .slice (some ⟨r, 0, none⟩) l.length (l.length + q.length)] 64
  row : Blk w r (uV .u16 l ++ q) 65
  ne : b ≠ r
  len : 2 ≤ l.length ∧ l.length ≤ 4096
  fits : ∀ n ∈ l, n < 65536
theorem uV_get {k : IntKind} {l : List Nat} {i : Nat} (h : i < l.length) : (uV k l)[i]? = some (.int k ((l.getD i 0 : Nat) : Int)) := by
  simp [uV, h]
theorem uVq_get {k : IntKind} {l : List Nat} {q : List Value} {i : Nat} (h : i < l.length) : (uV k l ++ q)[i]? = some (.int k ((l.getD i 0 : Nat) : Int)) := by
  rw [List.getElem?_append_left (by simpa [uV] using h), uV_get h]
theorem length_uV (k : IntKind) (l : List Nat) : (uV k l).length = l.length := by simp [uV]
theorem uV_set (k : IntKind) (l : List Nat) (i x : Nat) : (uV k l).set i (.int k (x : Int)) = uV k (l.set i x) := by simp [uV, List.map_set]
theorem Cnt.ext {w w' : World} {b r : Nat} {size : Int} {q : List Value} {l : List Nat} (h : Cnt w b r size q l) (he : Ext w w') : Cnt w' b r size q l := ⟨h.head.ext he, h.row.ext he, h.ne, h.len, h.fits⟩
theorem Cnt.kept {w w' : World} {b r k : Nat} {size : Int} {q : List Value} {l : List Nat} (h : Cnt w b r size q l) (hg : w.grownBy w' (some k)) (h1 : b ≠ k) (h2 : r ≠ k) : Cnt w' b r size q l :=
  ⟨h.head.grown hg (by simpa using h1), h.row.grown hg (by simpa using h2), h.ne, h.len, h.fits⟩
theorem Cnt.getD_lt {w : World} {b r : Nat} {size : Int} {q : List Value} {l : List Nat} (h : Cnt w b r size q l) (i : Nat) : l.getD i 0 < 65536 := by
  rcases Nat.lt_or_ge i l.length with hi | hi
  · rw [List.getD_eq_getElem?_getD, List.getElem?_eq_getElem hi]
    exact h.fits _ (List.getElem_mem hi)
  · rw [List.getD_eq_getElem?_getD, List.getElem?_eq_none hi]
    simp
/-- A count is set. -/
theorem Cnt.set {w : World} {b r i x : Nat} {size : Int} {q : List Value} {l : List Nat} (h : Cnt w b r size q l) (hi : i < l.length) (hx : x < 65536) :
    Cnt (w.setCell ⟨r, i, none⟩ (.int .u16 (x : Int))) b r size q (l.set i x) ∧ w.grownBy (w.setCell ⟨r, i, none⟩ (.int .u16 (x : Int))) (some r) := by
  have hs := h.row.set i (.int .u16 (x : Int))
  rw [List.set_append_left _ _ (by rw [length_uV]; exact hi), uV_set] at hs
  refine ⟨⟨by rw [List.length_set]; exact h.head.other (fun e => h.ne e.symm) _, hs, h.ne, by rw [List.length_set]; exact h.len, fun n hn => ?_⟩, ⟨rfl, rfl, rfl, by simp, fun k hk hne => Below.heap_setCell _ _ _ _ (fun e => hne (by rw [e]))⟩⟩
  rcases List.mem_or_eq_of_mem_set hn with h1 | h1
  · exact h.fits n h1
  · rw [h1]; exact hx
theorem get_calls {w : World} {b r : Nat} {size : Int} {q : List Value} {l : List Nat} (h : Cnt w b r size q l) (n : Nat) (hn : n < 4294967296) : Calls Try.prog 14 #[.pointer (some ⟨b, 0, none⟩), .int .u32 (n : Int)] w (Ret fun v w' => v = .int .i64 ((l.getD n 0 : Nat) : Int) ∧ w' = w) := by
  apply calls14
  unfold S14
  have hl := h.len
  refine splitW_f (by rfl) ?_
  refine ptr_i ?_
  refine ld_blk (o := 2) (x := (some ⟨r, 0, none⟩, l.length, l.length + q.length)) h.head (by rfl) ?_
  dsimp only
  rw [wrap_u64_nat (by omega), wrap_u64_nat (by omega)]
  refine splitW_i (fun hh => ?_) (fun hh => ?_)
  · have hh := of_decide_eq_true hh
    refine ⟨?_, rfl⟩
    rw [List.getD_eq_getElem?_getD, List.getElem?_eq_none (by omega)]
    rfl
  have hh := of_decide_eq_false hh
  refine ptr_i ?_
  refine ld_blk (o := 2) (x := (some ⟨r, 0, none⟩, l.length, l.length + q.length)) h.head (by rfl) ?_
  dsimp only
  refine guard_i ⟨by omega, by omega⟩ (ptr_i ?_)
  rw [Int.toNat_natCast, Nat.mul_one]
  refine ld_blk h.row (uVq_get (by omega)) ?_
  have := h.getD_lt n
  rw [wrap_i64 (by omega) (by omega)]
  exact ⟨rfl, rfl⟩
theorem getnil_calls (w : World) (n : Nat) : Calls Try.prog 14 #[.pointer none, .int .u32 (n : Int)] w (Ret fun v w' => v = .int .i64 0 ∧ w' = w) := by
  apply calls14
  unfold S14
  exact splitW_t (by rfl) ⟨rfl, rfl⟩
/-- Where a block's count lies, or the error. -/
def atE (l : List Nat) (n : Nat) : Int := if n < 2 ∨ l.length ≤ n then 2 else if l.getD n 0 = 0 then 8 else 0
def atP (l : List Nat) (n r : Nat) : Option Addr := if atE l n = 0 then some ⟨r, n, none⟩ else none
theorem at_calls {w : World} {b r : Nat} {size : Int} {q : List Value} {l : List Nat} (h : Cnt w b r size q l) (n : Nat) (hn : n < 4294967296) : Calls Try.prog 28 #[.pointer (some ⟨b, 0, none⟩), .int .u32 (n : Int)] w (Ret fun v w' => v = .tuple #[.pointer (atP l n r), .int .i64 (atE l n)] ∧ w' = w) := by
  apply calls28
  unfold S28 atP atE
  have hl := h.len
  refine splitW_f (by rfl) ?_
  refine splitW_i (fun hh => ?_) (fun hh => ?_)
  · have hh := of_decide_eq_true hh
    rw [if_pos (show n < 2 ∨ l.length ≤ n from .inl (by omega))]
    exact ⟨rfl, rfl⟩
  have hh := of_decide_eq_false hh
  refine ptr_i ?_
  refine ld_blk (o := 2) (x := (some ⟨r, 0, none⟩, l.length, l.length + q.length)) h.head (by rfl) ?_
  dsimp only
  rw [wrap_u64_nat (by omega), wrap_u64_nat (by omega)]
  refine splitW_i (fun h2 => ?_) (fun h2 => ?_)
  · have h2 := of_decide_eq_true h2
    rw [if_pos (show n < 2 ∨ l.length ≤ n from .inr (by omega))]
    exact ⟨rfl, rfl⟩
  have h2 := of_decide_eq_false h2
  rw [if_neg (show ¬ (n < 2 ∨ l.length ≤ n) by omega)]
  refine ptr_i ?_
  refine ld_blk (o := 2) (x := (some ⟨r, 0, none⟩, l.length, l.length + q.length)) h.head (by rfl) ?_
  dsimp only
  refine guard_i ⟨by omega, by omega⟩ (ptr_i ?_)
  rw [Int.toNat_natCast, Nat.mul_one]
  refine ld_blk h.row (uVq_get (by omega)) ?_
  refine splitW_i (fun h3 => ?_) (fun h3 => ?_)
  · have h3 : l.getD n 0 = 0 := by rw [beq_iff_eq] at h3; omega
    rw [if_pos h3]
    exact ⟨rfl, rfl⟩
  have h3 : ¬ l.getD n 0 = 0 := by rw [beq_eq_false_iff_ne] at h3; omega
  rw [if_neg h3]
  refine ptr_i ?_
  refine ld_blk (o := 2) (x := (some ⟨r, 0, none⟩, l.length, l.length + q.length)) h.head (by rfl) ?_
  dsimp only
  refine guard_i ⟨by omega, by omega⟩ (ptr_i ?_)
  rw [add_mk, Nat.zero_add]
  exact ⟨rfl, rfl⟩
def subL (l : List Nat) (n : Nat) : List Nat := if atE l n = 0 then l.set n (l.getD n 0 - 1) else l
def subN (l : List Nat) (n : Nat) : Nat := if atE l n = 0 then l.getD n 0 - 1 else 0
theorem atE_cases (l : List Nat) (n : Nat) : atE l n = 0 ∧ 2 ≤ n ∧ n < l.length ∧ l.getD n 0 ≠ 0 ∨ atE l n = 2 ∨ atE l n = 8 := by
  unfold atE
  split
  · exact .inr (.inl rfl)
  · split
    · exact .inr (.inr rfl)
    · exact .inl ⟨rfl, by omega, by omega, by assumption⟩
theorem sub_calls {w : World} {b r : Nat} {size : Int} {q : List Value} {l : List Nat} (h : Cnt w b r size q l) (n : Nat) (hn : n < 4294967296) : Calls Try.prog 12 #[.pointer (some ⟨b, 0, none⟩), .int .u32 (n : Int)] w (Ret fun v w' => v = .tuple #[.int .i64 (subN l n : Int), .int .i64 (atE l n)] ∧ Cnt w' b r size q (subL l n) ∧ w.grownBy w' (some r)) := by
  apply calls12
  unfold S12
  refine callW_of (at_calls h n hn) ?_
  rintro _ w1 ⟨rfl, hw⟩
  subst hw
  refine ⟨(atP l n r, atE l n, ()), rfl, ?_⟩
  dsimp only
  rcases atE_cases l n with ⟨h0, h2, hl, hne⟩ | h0
  · have hp : atP l n r = some ⟨r, n, none⟩ := by unfold atP; rw [if_pos h0]
    rw [hp, h0]
    refine splitW_f (by rfl) ?_
    have hfit := h.getD_lt n
    have hr : ∀ {K : Int → WP}, K ((l.getD n 0 : Nat) : Int) w1 → (ptrW (some (⟨r, n, none⟩ : Addr)) fun p => ldW (.int .u16) p K) w1 := fun {K} hk => ⟨_, rfl, ldW_blk h.row (uVq_get hl) hk⟩
    refine hr ?_
    refine ptr_i ?_
    refine stW_blk h.row (by rw [List.length_append, length_uV]; omega) ?_
    rw [show IntKind.wrap .u16 (((l.getD n 0 : Nat) : Int) - 1) = ((l.getD n 0 - 1 : Nat) : Int) from by rw [wrap_u16]; omega]
    obtain ⟨hc, hg⟩ := h.set (x := l.getD n 0 - 1) hl (by omega)
    refine ptr_i ?_
    refine ldW_blk hc.row (uVq_get (by rw [List.length_set]; exact hl)) ?_
    have e : (l.set n (l.getD n 0 - 1)).getD n 0 = l.getD n 0 - 1 := by
      rw [List.getD_eq_getElem?_getD, List.getElem?_set_self hl]
      rfl
    rw [e, wrap_i64 (by omega) (by omega)]
    have e1 : subN l n = l.getD n 0 - 1 := by unfold subN; rw [if_pos h0]
    have e2 : subL l n = l.set n (l.getD n 0 - 1) := by unfold subL; rw [if_pos h0]
    rw [e1, e2]
    exact ⟨rfl, hc, hg⟩
  · have hne : atE l n ≠ 0 := by rcases h0 with h0 | h0 <;> rw [h0] <;> decide
    have e1 : subN l n = 0 := by unfold subN; rw [if_neg hne]
    have e2 : subL l n = l := by unfold subL; rw [if_neg hne]
    rw [e1, e2]
    refine splitW_t (by simpa using hne) ?_
    exact ⟨rfl, h, grownBy_refl _ _⟩
def addE (l : List Nat) (n : Nat) : Int := if atE l n = 0 then (if l.getD n 0 = 65535 then 12 else 0) else atE l n
def addL (l : List Nat) (n : Nat) : List Nat := if addE l n = 0 then l.set n (l.getD n 0 + 1) else l
theorem add_calls {w : World} {b r : Nat} {size : Int} {q : List Value} {l : List Nat} (h : Cnt w b r size q l) (n : Nat) (hn : n < 4294967296) : Calls Try.prog 18 #[.pointer (some ⟨b, 0, none⟩), .int .u32 (n : Int)] w (Ret fun v w' => v = .int .i64 (addE l n) ∧ Cnt w' b r size q (addL l n) ∧ w.grownBy w' (some r)) := by
  apply calls18
  unfold S18
  refine callW_of (at_calls h n hn) ?_
  rintro _ w1 ⟨rfl, hw⟩
  subst hw
  refine ⟨(atP l n r, atE l n, ()), rfl, ?_⟩
  dsimp only
  rcases atE_cases l n with ⟨h0, h2, hl, hne⟩ | h0
  · have hp : atP l n r = some ⟨r, n, none⟩ := by unfold atP; rw [if_pos h0]
    rw [hp, h0]
    refine splitW_f (by rfl) ?_
    have hfit := h.getD_lt n
    refine ptr_i ?_
    refine ldW_blk h.row (uVq_get hl) ?_
    refine splitW_i (fun hm => ?_) (fun hm => ?_)
    · have hm : l.getD n 0 = 65535 := by rw [beq_iff_eq] at hm; omega
      have e1 : addE l n = 12 := by unfold addE; rw [if_pos h0, if_pos hm]
      have e2 : addL l n = l := by unfold addL; rw [e1]; rfl
      rw [e1, e2]
      exact ⟨rfl, h, grownBy_refl _ _⟩
    · have hm : ¬ l.getD n 0 = 65535 := by rw [beq_eq_false_iff_ne] at hm; omega
      have e1 : addE l n = 0 := by unfold addE; rw [if_pos h0, if_neg hm]
      have e2 : addL l n = l.set n (l.getD n 0 + 1) := by unfold addL; rw [if_pos e1]
      rw [e1, e2]
      refine ptr_i ?_
      refine ldW_blk h.row (uVq_get hl) ?_
      refine ptr_i ?_
      refine stW_blk h.row (by rw [List.length_append, length_uV]; omega) ?_
      rw [show IntKind.wrap .u16 (((l.getD n 0 : Nat) : Int) + 1) = ((l.getD n 0 + 1 : Nat) : Int) from by rw [wrap_u16]; omega]
      obtain ⟨hc, hg⟩ := h.set (x := l.getD n 0 + 1) hl (by omega)
      exact ⟨rfl, hc, hg⟩
  · have hne : atE l n ≠ 0 := by rcases h0 with h0 | h0 <;> rw [h0] <;> decide
    have e1 : addE l n = atE l n := by unfold addE; rw [if_neg hne]
    have e2 : addL l n = l := by unfold addL; rw [e1, if_neg hne]
    rw [e1, e2]
    refine splitW_t (by simpa using hne) ?_
    exact ⟨rfl, h, grownBy_refl _ _⟩
theorem fields_geo (w : World) (a b c d : Int) : (Op.eqFields 9999 #[.int .i64 a, .int .i64 b] #[.int .i64 c, .int .i64 d] (Try.prog.fieldsOf 23).toList).run Try.prog w = .ok (a == c && (b == d && true)) w := by
  have hf : (Try.prog.fieldsOf 23).toList = [(Try.prog.fieldsOf 23).getD 0 default, (Try.prog.fieldsOf 23).getD 1 default] := by kernel_rfl
  rw [hf]
  refine eqFields_step (of_decide_eq_true (by kernel_rfl)) (a := .int .i64 a) (b := .int .i64 c) (by kernel_rfl) (by kernel_rfl) (run_equalIn_int w 9998 _ .i64 .i64 _ _ (by kernel_rfl)) ?_
  refine eqFields_step (of_decide_eq_true (by kernel_rfl)) (a := .int .i64 b) (b := .int .i64 d) (by kernel_rfl) (by kernel_rfl) (run_equalIn_int w 9998 _ .i64 .i64 _ _ (by kernel_rfl)) ?_
  rfl
theorem neq_geo (w : World) (a b : Int) (x y : Operand) : (eqS .neq 23 x y (.agg #[.int .i64 a, .int .i64 b]) (.agg #[.int .i64 a, .int .i64 b])).run Try.prog w = .ok (.bool false) w := by
  have := eqS_neq (x := x) (y := y) (by kernel_rfl) (by kernel_rfl) (by kernel_rfl) (fields_geo w a b a b)
  simpa using this
/-- What is held: nothing, or another Counts of as many blocks. -/
def HeldC (w : World) (x : Option Addr) (b r : Nat) (size : Int) (len : Nat) (hl : List Nat) : Prop :=
  (x = none ∧ hl = []) ∨ ∃ b2 r2, x = some ⟨b2, 0, none⟩ ∧ (∃ q2, Cnt w b2 r2 size q2 hl) ∧ hl.length = len ∧ b2 ≠ r ∧ r2 ≠ r
def freeAt (l hl : List Nat) (i : Nat) : Bool := l.getD i 0 == 0 && hl.getD i 0 == 0
def takeI (l hl : List Nat) : Nat := (List.range l.length).findIdx (freeAt l hl)
def takeN (l hl : List Nat) : Nat := if takeI l hl < l.length then takeI l hl else 0
def takeE (l hl : List Nat) : Int := if takeI l hl < l.length then 0 else 9
def takeL (l hl : List Nat) : List Nat := if takeI l hl < l.length then l.set (takeI l hl) 1 else l
theorem takeI_le (l hl : List Nat) : takeI l hl ≤ l.length := by
  have := List.findIdx_le_length (p := freeAt l hl) (xs := List.range l.length)
  rw [List.length_range] at this
  exact this
theorem takeI_not {l hl : List Nat} {i : Nat} (h : i < takeI l hl) : freeAt l hl i = false := by
  have := List.not_of_lt_findIdx (p := freeAt l hl) (xs := List.range l.length) h
  simpa using this
theorem takeI_is {l hl : List Nat} (h : takeI l hl < l.length) : freeAt l hl (takeI l hl) = true := by
  have := List.findIdx_getElem (p := freeAt l hl) (xs := List.range l.length) (w := by rw [List.length_range]; exact h)
  rw [List.getElem_range] at this
  exact this
theorem take_calls {w : World} {b r : Nat} {size : Int} {q : List Value} {l hl : List Nat} {x : Option Addr} (h : Cnt w b r size q l) (hh : HeldC w x b r size l.length hl) :
    Calls Try.prog 11 #[.pointer (some ⟨b, 0, none⟩), .pointer x] w (Ret fun v w' => v = .tuple #[.int .u32 ((takeN l hl : Nat) : Int), .int .i64 (takeE l hl)] ∧ Cnt w' b r size q (takeL l hl) ∧ w.grownBy w' (some r)) := by
  apply calls11
  unfold S11
  have hlen := h.len
  refine joinW_s (fun _ w' => w' = w.drew) ?_ (fun J hJ => ?_)
  · rintro _ w1 hw1
    have hcw : Cnt w1 b r size q l := by rw [hw1]; exact h.ext (Ext.refl w).drew
    have hg0 : w.grownBy w1 (some r) := by rw [hw1]; exact grownBy_of_ext (Ext.refl w).drew _
    have hh1 : HeldC w1 x b r size l.length hl := by
      rcases hh with hh | ⟨b2, r2, h1, h2, h3⟩
      · exact .inl hh
      · obtain ⟨q2, h2⟩ := h2
        exact .inr ⟨b2, r2, h1, ⟨q2, by rw [hw1]; exact h2.ext (Ext.refl w).drew⟩, h3⟩
    refine ptr_i ?_
    refine ld_blk (o := 2) (x := (some ⟨r, 0, none⟩, l.length, l.length + q.length)) hcw.head (by rfl) ?_
    dsimp only
    refine loopW_i (fun y w' => w' = w1 ∧ ∃ i : Nat, i ≤ l.length ∧ y = ((i : Int), ()) ∧ i ≤ takeI l hl) (fun y => (l.length - y.1).toNat) ⟨rfl, 0, by omega, rfl, by omega⟩ ?_
    rintro _ _ ⟨rfl, i, hi, rfl, hti⟩
    dsimp only
    rename_i w1
    by_cases hlt : i < l.length
    · refine splitW_t (decide_eq_true (by omega)) ?_
      refine guard_i ⟨by omega, by omega⟩ (ptr_i ?_)
      rw [Int.toNat_natCast, Nat.mul_one]
      refine ld_blk hcw.row (uVq_get hlt) ?_
      rw [wrap_u32_nat (by omega), wrap_i64 (x := (i : Int) + 1) (by omega) (by omega)]
      have next : freeAt l hl i = false → i + 1 ≤ takeI l hl := fun hf => by
        rcases Nat.lt_or_ge i (takeI l hl) with h1 | h1
        · omega
        · have hii : takeI l hl = i := by omega
          have := takeI_is (l := l) (hl := hl) (by omega)
          rw [hii, hf] at this
          cases this
      refine splitW_i (fun hz => ?_) (fun hz => ?_)
      · have hz : l.getD i 0 = 0 := by rw [beq_iff_eq] at hz; omega
        have hget : Calls Try.prog 14 #[.pointer x, .int .u32 (i : Int)] w1 (Ret fun v w' => v = .int .i64 ((hl.getD i 0 : Nat) : Int) ∧ w' = w1) := by
          rcases hh1 with ⟨rfl, rfl⟩ | ⟨b2, r2, rfl, ⟨q2, hc2⟩, _⟩
          · exact getnil_calls w1 i
          · exact get_calls hc2 i (by omega)
        refine callW_of hget ?_
        rintro _ w2 ⟨rfl, hw2⟩
        subst hw2
        refine ⟨_, rfl, ?_⟩
        refine splitW_i (fun hz2 => ?_) (fun hz2 => ?_)
        · have hz2 : hl.getD i 0 = 0 := by rw [beq_iff_eq] at hz2; omega
          have hfr : freeAt l hl i = true := by unfold freeAt; rw [hz, hz2]; rfl
          have htake : takeI l hl = i := by
            rcases Nat.lt_or_ge i (takeI l hl) with h1 | h1
            · rw [takeI_not h1] at hfr; cases hfr
            · omega
          refine ptr_i ?_
          refine ld_blk (o := 2) (x := (some ⟨r, 0, none⟩, l.length, l.length + q.length)) hcw.head (by rfl) ?_
          dsimp only
          refine guard_i ⟨by omega, by omega⟩ (ptr_i ?_)
          rw [add_mk, Nat.zero_add]
          refine stW_blk hcw.row (by rw [List.length_append, length_uV]; omega) ?_
          obtain ⟨hc, hg⟩ := hcw.set (x := 1) hlt (by omega)
          have e1 : takeN l hl = i := by unfold takeN; rw [htake, if_pos hlt]
          have e2 : takeE l hl = 0 := by unfold takeE; rw [htake, if_pos hlt]
          have e3 : takeL l hl = l.set i 1 := by unfold takeL; rw [htake, if_pos hlt]
          rw [e1, e2, e3]
          exact ⟨rfl, hc, grownBy_tr hg0 hg (fun j hj => .inl hj)⟩
        · have hz2 : ¬ hl.getD i 0 = 0 := by rw [beq_eq_false_iff_ne] at hz2; omega
          refine ⟨⟨rfl, i + 1, by omega, rfl, next ?_⟩, by omega⟩
          unfold freeAt
          rw [Bool.and_eq_false_iff]
          right
          rw [beq_eq_false_iff_ne]
          exact hz2
      · have hz : ¬ l.getD i 0 = 0 := by rw [beq_eq_false_iff_ne] at hz; omega
        refine ⟨⟨rfl, i + 1, by omega, rfl, next ?_⟩, by omega⟩
        unfold freeAt
        rw [Bool.and_eq_false_iff]
        left
        rw [beq_eq_false_iff_ne]
        exact hz
    · obtain rfl : i = l.length := by omega
      refine splitW_f (decide_eq_false (by omega)) ?_
      have hno : ¬ takeI l hl < l.length := by omega
      have e1 : takeN l hl = 0 := by unfold takeN; rw [if_neg hno]
      have e2 : takeE l hl = 9 := by unfold takeE; rw [if_neg hno]
      have e3 : takeL l hl = l := by unfold takeL; rw [if_neg hno]
      rw [e1, e2, e3]
      exact ⟨rfl, hcw, hg0⟩
  · refine splitW_f (by rfl) ?_
    show (splitW _ _ _) w.drew
    rcases hh with ⟨rfl, rfl⟩ | ⟨b2, r2, rfl, ⟨q2, hc2⟩, hl2, _, _⟩
    · exact splitW_f (by rfl) (hJ _ _ rfl)
    · refine splitW_t (by rfl) ?_
      have hcd := h.ext (Ext.refl w).drew
      have hcd2 := hc2.ext (Ext.refl w).drew
      refine ptr_i ?_
      have rd : ∀ {b r : Nat} {q : List Value} {l : List Nat} {K : (Int × Int × Unit) → WP}, Cnt w.drew b r size q l → K (size, (l.length : Int), ()) w.drew → ldAW [(.int .i64), (.int .i64)] ⟨b, 0, none⟩ K w.drew := fun {b r q l K} hc hk => by
        refine ldA_i (ls := [(.int .i64), (.int .i64)]) (x := (size, (l.length : Int), ())) ?_ hk
        have := hc.head.cellsAt
        exact ⟨this.1, this.2.1, trivial⟩
      refine rd hcd2 ?_
      refine ptr_i ?_
      refine rd hcd ?_
      rw [hl2]
      refine ⟨false, fun w' => neq_geo w' _ _ _ _, ?_⟩
      exact splitW_f rfl (hJ _ _ rfl)
def intE : Enc Int where
  k := 1
  f n := [.int .i64 n]
  len _ := rfl
  one _ := by
    intro v hv
    simp only [List.mem_singleton] at hv
    subst hv
    rfl
  pos := by omega
theorem elem_int : ElemK Try.prog 37 3 (.int .i64 0) intE.k 8 := by
  refine ⟨by kernel_rfl, by kernel_rfl, rfl⟩
theorem elem_u16 : Elem Try.prog 62 65 (.int .u16 0) 2 := by
  refine ⟨by kernel_rfl, by kernel_rfl, rfl⟩
def allL (l : List Nat) : List Int := l.map fun n => ((n : Nat) : Int)
theorem all_calls {w : World} {b r : Nat} {size : Int} {q : List Value} {l : List Nat} (h : Cnt w b r size q l) : Calls Try.prog 13 #[.pointer (some ⟨b, 0, none⟩)] w (Ret fun v w' => ∃ x : Option Addr × Nat × Nat, v = .slice x.1 x.2.1 x.2.2 ∧ Owni intE 3 w' w.heap.size x.1 x.2.1 x.2.2 (allL l) ∧ Ext w w') := by
  apply calls13
  unfold S13
  have hl := h.len
  refine splitW_f (by rfl) ?_
  refine ptr_i ?_
  refine ld_blk (o := 2) (x := (some ⟨r, 0, none⟩, l.length, l.length + q.length)) h.head (by rfl) ?_
  dsimp only
  refine loopW_i (fun y w' => Ext w w' ∧ ∃ (i : Nat) (A : Option Addr) (m c : Nat), i ≤ l.length ∧ y = ((A, m, c), (i : Int), ()) ∧ Owni intE 3 w' w.heap.size A m c (allL (l.take i))) (fun y => (l.length - y.2.1).toNat) ⟨Ext.refl w, 0, none, 0, 0, by omega, rfl, Owni.nil _ _ _⟩ ?_
  rintro _ w' ⟨he, i, A, m, c, hi, rfl, ho⟩
  dsimp only
  have hm := ho.len
  have hml : m ≤ 4096 := by rw [← hm]; simp [allL]; omega
  by_cases hlt : i < l.length
  · refine splitW_t (decide_eq_true (by omega)) ?_
    refine guard_i ⟨by omega, by omega⟩ (ptr_i ?_)
    rw [Int.toNat_natCast, Nat.mul_one]
    refine ld_blk (h.row.ext he) (uVq_get hlt) ?_
    have hfit := h.getD_lt i
    rw [wrap_i64 (x := ((l.getD i 0 : Nat) : Int)) (by omega) (by omega)]
    refine append_newi (E := intE) (ys := [((l.getD i 0 : Nat) : Int)]) (by rfl) rfl elem_int ho he.size (by omega) (by omega) ?_
    intro A2 c2 w2 ho2 hg2
    dsimp only
    rw [wrap_i64 (by omega) (by omega)]
    refine ⟨⟨he.grown hg2.grown ho.row, i + 1, A2, _, c2, by omega, rfl, ?_⟩, by omega⟩
    have e : allL (l.take (i + 1)) = allL (l.take i) ++ [((l.getD i 0 : Nat) : Int)] := by
      rw [List.take_succ_eq_append_getElem hlt, List.getD_eq_getElem?_getD, List.getElem?_eq_getElem hlt]
      simp only [allL, List.map_append, List.map_cons, List.map_nil]
      rfl
    rw [e]
    exact ho2
  · obtain rfl : i = l.length := by omega
    refine splitW_f (decide_eq_false (by omega)) ?_
    rw [List.take_of_length_le (by omega)] at ho
    exact ⟨(A, m, c), rfl, ho, he⟩
theorem uV_one (k : IntKind) (xs : List Nat) : ∀ v ∈ uV k xs, v.oneCell' = true := by
  intro v hv
  obtain ⟨t, _, rfl⟩ := List.mem_map.1 hv
  rfl
theorem clone16_calls {w : World} {r n cc : Nat} {l : List Nat} (h : Sl w (some ⟨r, 0, none⟩) n (uV .u16 l)) (hm : n ≤ 4096) : Calls Try.prog 29 #[.slice (some ⟨r, 0, none⟩) n cc] w (Ret fun v w' => ∃ A c, v = .slice A n c ∧ Own 65 w' w.heap.size A n c (uV .u16 l) ∧ Ext w w') := by
  apply calls29
  unfold S29
  refine splitW_f (by rfl) ?_
  apply newW_i
  have ho : Own 65 (w.alloc (.cells #[] 65)) w.heap.size (some ⟨w.heap.size, 0, none⟩) 0 0 [] := Own.lit (cs := #[]) (Nat.le_refl _) (by simp)
  have he : Ext w (w.alloc (.cells #[] 65)) := (Ext.refl w).alloc _
  have hs : Sl (w.alloc (.cells #[] 65)) (some ⟨r, 0, none⟩) n (uV .u16 l) := h.ext he
  refine append_sl (c := 0) (n := 0) (m := n) elem_u16 ho he.size hs (uV_one .u16 l) (by omega) (by omega) ?_
  intro A' c' w' ho' hg _
  rw [List.nil_append, Nat.zero_add] at ho'
  rw [Nat.zero_add]
  exact ⟨A', c', rfl, ho', he.grown hg.grown (ho.row')⟩
def newL (n : Nat) : List Nat := 1 :: 1 :: List.replicate (n - 2) 0
theorem new_calls (w : World) (size blocks : Int) : Calls Try.prog 9 #[.agg #[.int .i64 size, .int .i64 blocks]] w (Ret fun v w' => ∃ x : Option Addr, v = .tuple #[.pointer x, .int .i64 (if geoOK size blocks then 0 else 2)] ∧ (if geoOK size blocks then ∃ b r, x = some ⟨b, 0, none⟩ ∧ Cnt w' b r size [] (newL blocks.toNat) ∧ w.heap.size ≤ b ∧ w.heap.size ≤ r else x = none) ∧ Ext w w') := by
  apply calls9
  unfold S9
  apply newW_i
  have hb : Blk (w.alloc (.cells #[(.int .i64 size), (.int .i64 blocks)] 23)) w.heap.size [(.int .i64 size), (.int .i64 blocks)] 23 := Blk.new w _ _
  have he : Ext w (w.alloc (.cells #[(.int .i64 size), (.int .i64 blocks)] 23)) := (Ext.refl w).alloc _
  generalize w.alloc (.cells #[(.int .i64 size), (.int .i64 blocks)] 23) = w1 at hb he ⊢
  refine ldA_blk (ls := [(.int .i64), (.int .i64)]) (x := (size, blocks, ())) hb rfl ?_
  refine callW_of (devcheck_calls w1 size blocks) ?_
  rintro _ w2 ⟨rfl, he2⟩
  refine ⟨_, rfl, ?_⟩
  have he02 := he.trans he2
  have hb2 := hb.ext he2
  cases hok : geoOK size blocks with
  | false =>
    rw [if_neg (by simp)]
    refine splitW_t (by rfl) ?_
    exact ⟨none, rfl, by rw [if_neg (by simp)], he02⟩
  | true =>
    rw [if_pos rfl]
    refine splitW_f (by rfl) ?_
    unfold geoOK at hok
    have hok := of_decide_eq_true hok
    obtain ⟨n, rfl⟩ : ∃ n : Nat, blocks = n := ⟨blocks.toNat, by omega⟩
    have he3 := he02.drew
    have hb3 := hb2.drew
    show (ldAW _ _ _) w2.drew
    generalize w2.drew = w3 at he3 hb3 ⊢
    refine ldA_blk (ls := [(.int .i64), (.int .i64)]) (x := (size, (n : Int), ())) hb3 rfl ?_
    refine ld_blk (o := 1) (x := (n : Int)) hb3 (by rfl) ?_
    refine make_own (B := w3.heap.size) elem_u16 rfl (Nat.le_refl _) (by omega) (by omega) ?_
    intro w4 ho4 hg4
    have he4 : Ext w w4 := he3.none hg4
    have h34 : Ext w3 w4 := (Ext.refl w3).none hg4
    have hrow : Blk w4 w3.heap.size (List.replicate n (.int .u16 0)) 65 := own_full ho4
    have hr1 : w.heap.size ≤ w3.heap.size := he3.size
    generalize w3.heap.size = r at hrow hr1 ⊢
    have hb4 := hb3.ext h34
    refine ⟨fun ls hls p hp => ?_, ?_⟩
    · simp only [List.mem_singleton] at hls
      subst hls
      have hc := hb4.cellsAt
      rcases List.mem_cons.1 hp with rfl | hp
      · exact hc.1
      · rcases List.mem_cons.1 hp with rfl | hp
        · exact hc.2.1
        · cases hp
    apply newW_i
    have hnb : Blk (w4.alloc (.cells #[(.int .i64 size), (.int .i64 (n : Int)), (.slice (some ⟨r, 0, none⟩) n n)] 64)) w4.heap.size [(.int .i64 size), (.int .i64 (n : Int)), (.slice (some ⟨r, 0, none⟩) n n)] 64 := Blk.new w4 _ _
    have hrow5 := hrow.alloc (.cells #[(.int .i64 size), (.int .i64 (n : Int)), (.slice (some ⟨r, 0, none⟩) n n)] 64)
    have he5 := he4.alloc (.cells #[(.int .i64 size), (.int .i64 (n : Int)), (.slice (some ⟨r, 0, none⟩) n n)] 64)
    have hrlt := hrow.lt
    have hb1 := he4.size
    dsimp only at hnb hrow5 he5 ⊢
    generalize w4.alloc (.cells #[(.int .i64 size), (.int .i64 (n : Int)), (.slice (some ⟨r, 0, none⟩) n n)] 64) = w5 at hnb hrow5 he5 ⊢
    generalize w4.heap.size = b at hnb hrlt hb1 ⊢
    have he6 := he5.drew
    have hnb6 := hnb.drew
    have hrow6 := hrow5.drew
    show (ptrW _ _) w5.drew
    generalize w5.drew = w6 at he6 hnb6 hrow6 ⊢
    refine ptr_i ?_
    refine ld_blk (o := 2) (x := (some ⟨r, 0, none⟩, n, n)) hnb6 (by rfl) ?_
    refine ptr_i ?_
    refine ld_blk (o := 2) (x := (some ⟨r, 0, none⟩, n, n)) hnb6 (by rfl) ?_
    dsimp only
    refine guard_i ⟨by omega, by omega⟩ (ptr_i ?_)
    rw [show ((⟨r, 0, none⟩ : Addr).add (Int.toNat 0 * 1)) = ⟨r, 0, none⟩ by rw [add_mk]; rfl]
    refine stW_blk hrow6 (by rw [List.length_replicate]; omega) ?_
    have hrow7 := hrow6.set 0 (.int .u16 1)
    have hnb7 := hnb6.other (p := ⟨r, 0, none⟩) (by simp only; omega) (.int .u16 1)
    have he7 := he6.set (p := ⟨r, 0, none⟩) hr1 (.int .u16 1)
    refine guard_i ⟨by omega, by omega⟩ (ptr_i ?_)
    rw [show ((⟨r, 0, none⟩ : Addr).add (Int.toNat 1 * 1)) = ⟨r, 1, none⟩ by rw [add_mk]; rfl]
    refine stW_blk hrow7 (by rw [List.length_set, List.length_replicate]; omega) ?_
    have hrow8 := hrow7.set 1 (.int .u16 1)
    have hnb8 := hnb7.other (p := ⟨r, 1, none⟩) (by simp only; omega) (.int .u16 1)
    have he8 := he7.set (p := ⟨r, 1, none⟩) hr1 (.int .u16 1)
    refine ⟨some ⟨b, 0, none⟩, rfl, ?_, he8⟩
    rw [if_pos rfl]
    have hlen : (newL (Int.toNat (n : Int))).length = n := by simp [newL]; omega
    have hcells : ((List.replicate n (Value.int .u16 0)).set 0 (.int .u16 1)).set 1 (.int .u16 1) = uV .u16 (newL (Int.toNat (n : Int))) ++ [] := by
      rw [List.append_nil, Int.toNat_natCast]
      obtain ⟨m, rfl⟩ : ∃ m, n = m + 2 := ⟨n - 2, by omega⟩
      simp [newL, uV, List.replicate_succ]
    rw [hcells] at hrow8
    refine ⟨b, r, rfl, ⟨by rw [hlen]; exact hnb8, hrow8, by omega, by rw [hlen]; omega, fun x hx => ?_⟩, hb1, hr1⟩
    simp only [newL, List.mem_cons, List.mem_replicate] at hx
    omega
theorem own_rows {e : TypeId} {w : World} {B n c : Nat} {A : Option Addr} {vs : List Value} (h : Own e w B A n c vs) (hn : 0 < n) : ∃ g q, A = some ⟨g, 0, none⟩ ∧ Blk w g (vs ++ q) e ∧ c = n + q.length ∧ B ≤ g := by
  rcases h.2 with ⟨h1, h2⟩ | ⟨g, cap, cur, hv, hbg, hg, hnc, hcm, hcs, htake⟩
  · omega
  · injection hv with hv1 hv2 hv3
    subst hv1 hv3
    refine ⟨g, cur.toList.drop n, rfl, ?_, by rw [List.length_drop, Array.length_toList, hcs]; omega, hbg⟩
    rw [← htake, Nat.mul_one, List.take_append_drop]
    show w.heap[g]? = _
    rw [hg]
theorem cntclone_calls {w : World} {b r : Nat} {size : Int} {q : List Value} {l : List Nat} (h : Cnt w b r size q l) : Calls Try.prog 17 #[.pointer (some ⟨b, 0, none⟩)] w (Ret fun v w' => (∃ b2 r2 q2, v = .pointer (some ⟨b2, 0, none⟩) ∧ Cnt w' b2 r2 size q2 l ∧ w.heap.size ≤ b2 ∧ w.heap.size ≤ r2) ∧ Ext w w') := by
  apply calls17
  unfold S17
  have hl := h.len
  refine splitW_f (by rfl) ?_
  have he1 := (Ext.refl w).drew
  have h1 := h.ext he1
  show (ptrW _ _) w.drew
  generalize w.drew = w1 at he1 h1 ⊢
  refine ptr_i ?_
  have hc := h1.head.cellsAt
  refine ldA_i (ls := [(.int .i64), (.int .i64)]) (x := (size, (l.length : Int), ())) ⟨hc.1, hc.2.1, trivial⟩ ?_
  refine ptr_i ?_
  refine ld_blk (o := 2) (x := (some ⟨r, 0, none⟩, l.length, l.length + q.length)) h1.head (by rfl) ?_
  dsimp only
  have hsl : Sl w1 (some ⟨r, 0, none⟩) l.length (uV .u16 l) := ⟨by rw [length_uV], by omega, fun _ => ⟨_, rfl, fun j v hj => by
    have hjl : j < (uV .u16 l).length := (List.getElem?_eq_some_iff.1 hj).1
    rw [add_mk, h1.row.cell, Nat.zero_add, List.getElem?_append_left hjl]
    exact hj⟩⟩
  refine callW_of (clone16_calls hsl (by omega)) ?_
  rintro _ w2 ⟨A, c, rfl, ho, he2⟩
  refine ⟨(A, l.length, c), rfl, ?_⟩
  dsimp only
  obtain ⟨g, q2, rfl, hg, rfl, hBg⟩ := own_rows ho (by omega)
  have h2 := h1.ext he2
  have hc2 := h2.head.cellsAt
  refine ⟨fun ls hls p hp => ?_, ?_⟩
  · simp only [List.mem_singleton] at hls
    subst hls
    rcases List.mem_cons.1 hp with rfl | hp
    · exact hc2.1
    · rcases List.mem_cons.1 hp with rfl | hp
      · exact hc2.2.1
      · cases hp
  apply newW_i
  have hnb : Blk (w2.alloc (.cells #[(.int .i64 size), (.int .i64 (l.length : Int)), (.slice (some ⟨g, 0, none⟩) l.length (l.length + q2.length))] 64)) w2.heap.size [(.int .i64 size), (.int .i64 (l.length : Int)), (.slice (some ⟨g, 0, none⟩) l.length (l.length + q2.length))] 64 := Blk.new w2 _ _
  have hgl := hg.lt
  have hs1 := he1.size
  have hs2 := he2.size
  exact ⟨⟨w2.heap.size, g, q2, rfl, ⟨hnb, hg.alloc _, by omega, hl, h.fits⟩, by omega, by omega⟩, (he1.trans he2).alloc _⟩
def lightGeo (size blocks : Int) : Bool := if size < 128 ∨ size > 4096 ∨ blocks < 8 ∨ blocks > 4096 then true else decide (size ≤ 512 ∧ blocks ≤ 40)
theorem lightgeo_calls (w : World) (size blocks : Int) : Calls Try.prog 10 #[.agg #[.int .i64 size, .int .i64 blocks]] w (Ret fun v w' => v = .bool (lightGeo size blocks) ∧ Ext w w') := by
  apply calls10
  unfold S10 lightGeo
  apply newW_i
  have hb : Blk (w.alloc (.cells #[(.int .i64 size), (.int .i64 blocks)] 23)) w.heap.size [(.int .i64 size), (.int .i64 blocks)] 23 := Blk.new w _ _
  have he : Ext w (w.alloc (.cells #[(.int .i64 size), (.int .i64 blocks)] 23)) := (Ext.refl w).alloc _
  generalize w.alloc (.cells #[(.int .i64 size), (.int .i64 blocks)] 23) = w1 at hb he ⊢
  refine ldW_blk hb (by rfl) ?_
  refine splitW_i (fun h => ?_) (fun h1 => ?_)
  · rw [if_pos (.inl (of_decide_eq_true h))]; exact ⟨rfl, he⟩
  refine ldW_blk hb (by rfl) ?_
  refine splitW_i (fun h => ?_) (fun h2 => ?_)
  · rw [if_pos (.inr (.inl (of_decide_eq_true h)))]; exact ⟨rfl, he⟩
  refine ld_blk (o := 1) hb (by rfl) ?_
  refine splitW_i (fun h => ?_) (fun h3 => ?_)
  · rw [if_pos (.inr (.inr (.inl (of_decide_eq_true h))))]; exact ⟨rfl, he⟩
  refine ld_blk (o := 1) hb (by rfl) ?_
  refine splitW_i (fun h => ?_) (fun h4 => ?_)
  · rw [if_pos (.inr (.inr (.inr (of_decide_eq_true h))))]; exact ⟨rfl, he⟩
  have h1 := of_decide_eq_false h1
  have h2 := of_decide_eq_false h2
  have h3 := of_decide_eq_false h3
  have h4 := of_decide_eq_false h4
  rw [if_neg (by omega)]
  refine ldW_blk hb (by rfl) ?_
  refine splitW_i (fun h => ?_) (fun h5 => ?_)
  · have h := of_decide_eq_true h
    refine ld_blk (o := 1) hb (by rfl) ?_
    refine ⟨?_, he⟩
    congr 1
    exact decide_eq_decide.2 (by omega)
  · have h5 := of_decide_eq_false h5
    refine ⟨?_, he⟩
    congr 1
    symm
    rw [decide_eq_false_iff_not]
    omega
end Go.Proofs.Ytmogbadaoaikcaa.V
