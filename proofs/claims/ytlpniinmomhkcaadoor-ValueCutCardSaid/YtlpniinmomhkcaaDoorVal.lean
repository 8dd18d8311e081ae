/- Cells and rows as keys: plain. -/
import Derived.Test.YtlpniinmomhkcaaDoorKCell
set_option linter.unusedVariables false
set_option linter.unusedSimpArgs false
namespace Go.Proofs.YtlpniinmomhkcaaDoor.V
open Go Go.Proofs

/-! ### Bytes in order -/
def cmpI (a b : Int) : Int := if a < b then -1 else if b < a then 1 else 0
def cmpL : List UInt8 → List UInt8 → Int
  | [], [] => 0
  | [], _ :: _ => -1
  | _ :: _, [] => 1
  | a :: r, b :: s => if a.toNat < b.toNat then -1 else if b.toNat < a.toNat then 1 else cmpL r s
theorem cmpL_self : ∀ a, cmpL a a = 0
  | [] => rfl
  | a :: r => by rw [cmpL, if_neg (by omega), if_neg (by omega), cmpL_self r]
theorem cmpL_zero : ∀ {a b}, cmpL a b = 0 → a = b
  | [], [], _ => rfl
  | [], _ :: _, h => by simp [cmpL] at h
  | _ :: _, [], h => by simp [cmpL] at h
  | a :: r, b :: s, h => by
    rw [cmpL] at h
    split at h
    · cases h
    · split at h
      · cases h
      · have : a = b := UInt8.toNat_inj.1 (by omega)
        rw [this, cmpL_zero h]
theorem cmpL_neg : ∀ a b, cmpL b a = -cmpL a b
  | [], [] => rfl
  | [], _ :: _ => rfl
  | _ :: _, [] => rfl
  | a :: r, b :: s => by
    rw [cmpL, cmpL]
    by_cases h1 : a.toNat < b.toNat
    · rw [if_neg (show ¬ b.toNat < a.toNat by omega), if_pos h1, if_pos h1]; rfl
    · by_cases h2 : b.toNat < a.toNat
      · rw [if_pos h2, if_neg h1, if_pos h2]
      · rw [if_neg h1, if_neg h2, if_neg h2, if_neg h1, cmpL_neg r s]
theorem cmpL_range : ∀ a b, cmpL a b = -1 ∨ cmpL a b = 0 ∨ cmpL a b = 1
  | [], [] => .inr (.inl rfl)
  | [], _ :: _ => .inl rfl
  | _ :: _, [] => .inr (.inr rfl)
  | a :: r, b :: s => by
    rw [cmpL]
    split
    · exact .inl rfl
    · split
      · exact .inr (.inr rfl)
      · exact cmpL_range r s
theorem cmpL_trans : ∀ {a b c}, cmpL a b ≤ 0 → cmpL b c ≤ 0 → cmpL a c ≤ 0
  | [], [], c, _, h => h
  | [], _ :: _, [], _, h => by simp [cmpL]
  | [], _ :: _, _ :: _, _, _ => by simp [cmpL]
  | _ :: _, [], _, h, _ => by simp [cmpL] at h
  | _ :: _, _ :: _, [], _, h => by simp [cmpL] at h
  | a :: r, b :: s, c :: t, h, k => by
    rw [cmpL] at h k ⊢
    split at h
    · split at k
      · rw [if_pos (by omega)]; omega
      · split at k
        · omega
        · rw [if_pos (by omega)]; omega
    · split at h
      · omega
      · split at k
        · rw [if_pos (by omega)]; omega
        · split at k
          · omega
          · rw [if_neg (by omega), if_neg (by omega)]
            exact cmpL_trans h k
/-- The first that tells, tells. -/
def orI (a b : Int) : Int := if a = 0 then b else a
theorem cmpL_append : ∀ (p q u v : List UInt8), p.length = q.length → cmpL (p ++ u) (q ++ v) = orI (cmpL p q) (cmpL u v)
  | [], [], u, v, _ => rfl
  | a :: r, b :: s, u, v, h => by
    rw [List.cons_append, List.cons_append, cmpL, cmpL]
    split
    · rfl
    · split
      · rfl
      · exact cmpL_append r s u v (by simpa using h)
/-! ### Numbers, the highest byte first -/
def be : Nat → Nat → List UInt8
  | 0, _ => []
  | n + 1, v => UInt8.ofNat (v / 256 ^ n) :: be n v
theorem be_length : ∀ n v, (be n v).length = n
  | 0, _ => rfl
  | n + 1, v => by rw [be, List.length_cons, be_length n v]
theorem be_mod : ∀ n v, be n (v % 256 ^ n) = be n v
  | 0, v => rfl
  | n + 1, v => by
    rw [be, be]
    congr 1
    · apply UInt8.toNat_inj.1
      rw [UInt8.toNat_ofNat', UInt8.toNat_ofNat', Nat.pow_succ, Nat.mod_mul_right_div_self]
      omega
    · rw [← be_mod n, ← be_mod n v, Nat.pow_succ, Nat.mod_mul_right_mod]
theorem cmp_be : ∀ (n a b : Nat), a < 256 ^ n → b < 256 ^ n → cmpL (be n a) (be n b) = cmpI a b
  | 0, a, b, ha, hb => by
    have : a = b := by simp at ha hb; omega
    subst this
    simp [be, cmpL, cmpI]
  | n + 1, a, b, ha, hb => by
    have hp : 0 < 256 ^ n := Nat.pow_pos (by decide)
    rw [Nat.pow_succ, Nat.mul_comm] at ha hb
    have h1 : a / 256 ^ n < 256 := Nat.div_lt_of_lt_mul (by rw [Nat.mul_comm]; exact ha)
    have h2 : b / 256 ^ n < 256 := Nat.div_lt_of_lt_mul (by rw [Nat.mul_comm]; exact hb)
    rw [be, be, cmpL, UInt8.toNat_ofNat', UInt8.toNat_ofNat', Nat.mod_eq_of_lt (by omega), Nat.mod_eq_of_lt (by omega)]
    have ea := Nat.div_add_mod a (256 ^ n)
    have eb := Nat.div_add_mod b (256 ^ n)
    have ma := Nat.mod_lt a hp
    have mb := Nat.mod_lt b hp
    unfold cmpI
    by_cases h3 : a / 256 ^ n < b / 256 ^ n
    · have : 256 ^ n * (a / 256 ^ n + 1) ≤ 256 ^ n * (b / 256 ^ n) := Nat.mul_le_mul_left _ h3
      rw [Nat.mul_add, Nat.mul_one] at this
      rw [if_pos h3, if_pos (by omega)]
    · rw [if_neg h3]
      by_cases h4 : b / 256 ^ n < a / 256 ^ n
      · have : 256 ^ n * (b / 256 ^ n + 1) ≤ 256 ^ n * (a / 256 ^ n) := Nat.mul_le_mul_left _ h4
        rw [Nat.mul_add, Nat.mul_one] at this
        rw [if_pos h4, if_neg (by omega), if_pos (by omega)]
      · rw [if_neg h4, ← be_mod n a, ← be_mod n b, cmp_be n _ _ ma mb]
        have e : a / 256 ^ n = b / 256 ^ n := by omega
        rw [e] at ea
        unfold cmpI
        by_cases h5 : (a % 256 ^ n : Nat) < b % 256 ^ n
        · rw [if_pos (by omega), if_pos (by omega)]
        · rw [if_neg (by omega)]
          by_cases h6 : (b % 256 ^ n : Nat) < a % 256 ^ n
          · rw [if_pos (by omega), if_neg (by omega), if_pos (by omega)]
          · rw [if_neg (by omega), if_neg (by omega), if_neg (by omega)]
def bev : List UInt8 → Nat
  | [] => 0
  | b :: r => b.toNat * 256 ^ r.length + bev r
theorem bev_be : ∀ n v, bev (be n v) = v % 256 ^ n
  | 0, v => by simp [be, bev, Nat.mod_one]
  | n + 1, v => by
    have e : 256 ^ (n + 1) = 256 ^ n * 256 := Nat.pow_succ 256 n
    have h := Nat.mod_mul (x := v) (a := 256 ^ n) (b := 256)
    have e2 : (2 : Nat) ^ 8 = 256 := by decide
    rw [be, bev, be_length, bev_be n v, UInt8.toNat_ofNat', e, h, e2, Nat.mul_comm (256 ^ n)]
    omega
theorem bev_lt : ∀ l : List UInt8, bev l < 256 ^ l.length
  | [] => by simp [bev]
  | b :: r => by
    rw [bev, List.length_cons, Nat.pow_succ]
    have h1 := bev_lt r
    have h2 := b.toNat_lt
    have : (b.toNat + 1) * 256 ^ r.length ≤ 256 * 256 ^ r.length := Nat.mul_le_mul_right _ h2
    rw [Nat.add_mul, Nat.one_mul] at this
    rw [Nat.mul_comm (256 ^ r.length)]
    omega
theorem be_bev : ∀ l : List UInt8, be l.length (bev l) = l
  | [] => rfl
  | b :: r => by
    rw [List.length_cons, be, bev]
    have h1 := bev_lt r
    have hp : 0 < 256 ^ r.length := Nat.pow_pos (by decide)
    congr 1
    · apply UInt8.toNat_inj.1
      rw [UInt8.toNat_ofNat', Nat.add_comm, Nat.add_mul_div_right _ _ hp, Nat.div_eq_of_lt h1, Nat.zero_add]
      exact Nat.mod_eq_of_lt b.toNat_lt
    · rw [← be_mod, Nat.add_comm, Nat.add_mul_mod_self_right, be_mod, be_bev r]
/-! ### Keys -/
def esc : List UInt8 → List UInt8
  | [] => []
  | b :: r => if b = 0 then 0 :: 255 :: esc r else b :: esc r
/-- A whole number with a sign, its sign's bit turned. -/
def bias (z : Int) : Nat := (z + 9223372036854775808).toNat
def keyC (c : Cell) : List UInt8 := UInt8.ofNat c.1.toNat :: (if c.1 = 1 then be 8 (bias c.2.1) else if c.1 = 2 then [UInt8.ofNat c.2.1.toNat] else if c.1 = 3 then esc (B c.2.2) ++ [0, 0] else [])
def cmpC (a b : Cell) : Int := orI (cmpI a.1 b.1) (orI (cmpI a.2.1 b.2.1) (cmpL (B a.2.2) (B b.2.2)))
def cmpR : List Cell → List Cell → Int
  | [], [] => 0
  | [], _ :: _ => -1
  | _ :: _, [] => 1
  | a :: r, b :: s => orI (cmpC a b) (cmpR r s)
def keyR (row : List Cell) : List UInt8 := row.flatMap keyC
theorem orI_z (y : Int) : orI 0 y = y := if_pos rfl
theorem orI_0 (x : Int) : orI x 0 = x := by unfold orI; split <;> omega
theorem orI_assoc (a b c : Int) : orI (orI a b) c = orI a (orI b c) := by
  unfold orI
  by_cases h : a = 0
  · rw [if_pos h, if_pos h]
  · rw [if_neg h, if_neg h, if_neg h]
theorem u8_pos {b : UInt8} (h : b ≠ 0) : 0 < b.toNat := by
  have : b.toNat ≠ 0 := fun e => h (UInt8.toNat_inj.1 e)
  omega
theorem cmpL_lt {a b : UInt8} {r s : List UInt8} (h : a.toNat < b.toNat) : cmpL (a :: r) (b :: s) = -1 := by rw [cmpL, if_pos h]
theorem cmpL_gt {a b : UInt8} {r s : List UInt8} (h : b.toNat < a.toNat) : cmpL (a :: r) (b :: s) = 1 := by rw [cmpL, if_neg (by omega), if_pos h]
theorem cmpL_same {a : UInt8} {r s : List UInt8} : cmpL (a :: r) (a :: s) = cmpL r s := by rw [cmpL, if_neg (by omega), if_neg (by omega)]
theorem esc_0 (r : List UInt8) : esc (0 :: r) = 0 :: 255 :: esc r := by rw [esc, if_pos rfl]
theorem esc_b {b : UInt8} (h : b ≠ 0) (r : List UInt8) : esc (b :: r) = b :: esc r := by rw [esc, if_neg h]
theorem cmp_esc : ∀ (s t u v : List UInt8), cmpL (esc s ++ 0 :: 0 :: u) (esc t ++ 0 :: 0 :: v) = orI (cmpL s t) (cmpL u v)
  | [], [], u, v => by
    show cmpL (0 :: 0 :: u) (0 :: 0 :: v) = orI 0 (cmpL u v)
    rw [cmpL_same, cmpL_same]
    rfl
  | [], b :: t, u, v => by
    show cmpL (0 :: 0 :: u) _ = orI (-1) _
    by_cases hb : b = 0
    · subst hb
      rw [esc_0]
      show cmpL (0 :: 0 :: u) (0 :: 255 :: _) = _
      rw [cmpL_same, cmpL_lt (by decide)]
      rfl
    · rw [esc_b hb]
      show cmpL (0 :: 0 :: u) (b :: _) = _
      rw [cmpL_lt (show (0 : UInt8).toNat < b.toNat from u8_pos hb)]
      rfl
  | a :: s, [], u, v => by
    show cmpL _ (0 :: 0 :: v) = orI 1 _
    by_cases ha : a = 0
    · subst ha
      rw [esc_0]
      show cmpL (0 :: 255 :: _) (0 :: 0 :: v) = _
      rw [cmpL_same, cmpL_gt (by decide)]
      rfl
    · rw [esc_b ha]
      show cmpL (a :: _) (0 :: 0 :: v) = _
      rw [cmpL_gt (show (0 : UInt8).toNat < a.toNat from u8_pos ha)]
      rfl
  | a :: s, b :: t, u, v => by
    have ih := cmp_esc s t u v
    by_cases ha : a = 0
    · by_cases hb : b = 0
      · subst ha hb
        rw [esc_0, esc_0, cmpL_same]
        show cmpL (0 :: 255 :: _) (0 :: 255 :: _) = _
        rw [cmpL_same, cmpL_same]
        exact ih
      · subst ha
        rw [esc_0, esc_b hb, cmpL_lt (show (0 : UInt8).toNat < b.toNat from u8_pos hb)]
        show cmpL (0 :: _) (b :: _) = _
        rw [cmpL_lt (show (0 : UInt8).toNat < b.toNat from u8_pos hb)]
        rfl
    · by_cases hb : b = 0
      · subst hb
        rw [esc_0, esc_b ha, cmpL_gt (show (0 : UInt8).toNat < a.toNat from u8_pos ha)]
        show cmpL (a :: _) (0 :: _) = _
        rw [cmpL_gt (show (0 : UInt8).toNat < a.toNat from u8_pos ha)]
        rfl
      · rw [esc_b ha, esc_b hb]
        show cmpL (a :: (esc s ++ 0 :: 0 :: u)) (b :: (esc t ++ 0 :: 0 :: v)) = _
        rw [cmpL, cmpL]
        split
        · rfl
        · split
          · rfl
          · exact ih
theorem cellOK_kind {c : Cell} (h : cellOK c = true) : c.1 = 0 ∨ c.1 = 1 ∨ c.1 = 2 ∨ c.1 = 3 := by
  unfold cellOK at h
  split at h
  · left; assumption
  · split at h
    · right; left; assumption
    · split at h
      · right; right; left; assumption
      · split at h
        · right; right; right; assumption
        · cases h
theorem ok0 {c : Cell} (h : cellOK c = true) (k : c.1 = 0) : c.2.1 = 0 ∧ B c.2.2 = [] := by
  unfold cellOK at h
  rw [if_pos k, Bool.and_eq_true] at h
  exact ⟨beq_iff_eq.1 h.1, of_decide_eq_true h.2⟩
theorem ok1 {c : Cell} (h : cellOK c = true) (k : c.1 = 1) : B c.2.2 = [] := by
  unfold cellOK at h
  rw [if_neg (by omega), if_pos k] at h
  exact of_decide_eq_true h
theorem ok2 {c : Cell} (h : cellOK c = true) (k : c.1 = 2) : B c.2.2 = [] ∧ (c.2.1 = 0 ∨ c.2.1 = 1) := by
  unfold cellOK at h
  rw [if_neg (by omega), if_neg (by omega), if_pos k, Bool.and_eq_true, Bool.or_eq_true] at h
  exact ⟨of_decide_eq_true h.1, by rcases h.2 with q | q; exact .inl (beq_iff_eq.1 q); exact .inr (beq_iff_eq.1 q)⟩
theorem ok3 {c : Cell} (h : cellOK c = true) (k : c.1 = 3) : c.2.1 = 0 ∧ (B c.2.2).length ≤ 256 := by
  unfold cellOK at h
  rw [if_neg (by omega), if_neg (by omega), if_neg (by omega), if_pos k, Bool.and_eq_true] at h
  exact ⟨beq_iff_eq.1 h.1, of_decide_eq_true h.2⟩
theorem cmpI_self (a : Int) : cmpI a a = 0 := by unfold cmpI; rw [if_neg (by omega), if_neg (by omega)]
theorem cmpI_ne {a b : Int} (h : a ≠ b) : cmpI a b ≠ 0 := by
  unfold cmpI
  split
  · omega
  · split
    · omega
    · omega
theorem cmpI_bias {a b : Int} (ha : -9223372036854775808 ≤ a) (hb : -9223372036854775808 ≤ b) : cmpI (bias a) (bias b) = cmpI a b := by
  unfold cmpI bias
  by_cases h1 : a < b
  · rw [if_pos (by omega), if_pos h1]
  · rw [if_neg (by omega), if_neg h1]
    by_cases h2 : b < a
    · rw [if_pos (by omega), if_pos h2]
    · rw [if_neg (by omega), if_neg h2]
theorem cmp_byte {a b : Nat} (ha : a < 256) (hb : b < 256) (u v : List UInt8) : cmpL (UInt8.ofNat a :: u) (UInt8.ofNat b :: v) = orI (cmpI a b) (cmpL u v) := by
  rw [cmpL, UInt8.toNat_ofNat', UInt8.toNat_ofNat', Nat.mod_eq_of_lt (by omega), Nat.mod_eq_of_lt (by omega)]
  by_cases h1 : a < b
  · have e : cmpI a b = -1 := by unfold cmpI; rw [if_pos (by omega)]
    rw [if_pos h1, e]
    rfl
  · by_cases h2 : b < a
    · have e : cmpI a b = 1 := by unfold cmpI; rw [if_neg (by omega), if_pos (by omega)]
      rw [if_neg h1, if_pos h2, e]
      rfl
    · have e : cmpI a b = 0 := by unfold cmpI; rw [if_neg (by omega), if_neg (by omega)]
      rw [if_neg h1, if_neg h2, e]
      rfl
/-- Keys are in the order of their cells. -/
theorem cmp_key {c d : Cell} (hc : cellOK c = true) (hd : cellOK d = true) (qc : cellQ c) (qd : cellQ d) (u v : List UInt8) : cmpL (keyC c ++ u) (keyC d ++ v) = orI (cmpC c d) (cmpL u v) := by
  have kc := cellOK_kind hc
  have kd := cellOK_kind hd
  unfold keyC cmpC
  rw [List.cons_append, List.cons_append, cmp_byte (by omega) (by omega), orI_assoc, Int.toNat_of_nonneg (by omega), Int.toNat_of_nonneg (by omega)]
  by_cases hk : c.1 = d.1
  · rw [hk, cmpI_self]
    rw [orI_z, orI_z]
    rcases kd with k | k | k | k
    · obtain ⟨a1, a2⟩ := ok0 hc (hk.trans k)
      obtain ⟨b1, b2⟩ := ok0 hd k
      rw [k, a1, a2, b1, b2, cmpI_self]
      rfl
    · have a2 := ok1 hc (hk.trans k)
      have b2 := ok1 hd k
      rw [k, a2, b2]
      show cmpL (be 8 _ ++ u) (be 8 _ ++ v) = _
      rw [cmpL_append _ _ _ _ (by rw [be_length, be_length]), cmp_be 8 _ _ (by unfold bias; have := qc.2.1; omega) (by unfold bias; have := qd.2.1; omega), cmpI_bias qc.2.1.1 qd.2.1.1]
      show _ = orI (orI _ 0) _
      rw [orI_0]
    · obtain ⟨a1, a2⟩ := ok2 hc (hk.trans k)
      obtain ⟨b1, b2⟩ := ok2 hd k
      rw [k, a1, b1]
      show cmpL (UInt8.ofNat _ :: u) (UInt8.ofNat _ :: v) = _
      rw [cmp_byte (by omega) (by omega), Int.toNat_of_nonneg (by omega), Int.toNat_of_nonneg (by omega)]
      show _ = orI (orI _ 0) _
      rw [orI_0]
    · obtain ⟨a1, a2⟩ := ok3 hc (hk.trans k)
      obtain ⟨b1, b2⟩ := ok3 hd k
      rw [k, a1, b1, cmpI_self]
      show cmpL ((esc _ ++ [0, 0]) ++ u) ((esc _ ++ [0, 0]) ++ v) = _
      rw [List.append_assoc, List.append_assoc]
      show cmpL (esc _ ++ 0 :: 0 :: u) (esc _ ++ 0 :: 0 :: v) = _
      rw [cmp_esc]
      rfl
  · have := cmpI_ne hk
    unfold orI
    rw [if_neg this, if_neg this]
theorem cmp_keys : ∀ {a b : List Cell}, (∀ c ∈ a, cellOK c = true ∧ cellQ c) → (∀ c ∈ b, cellOK c = true ∧ cellQ c) → cmpL (keyR a) (keyR b) = cmpR a b
  | [], [], _, _ => rfl
  | [], d :: s, _, _ => by
    show cmpL [] (keyC d ++ keyR s) = -1
    unfold keyC
    rfl
  | c :: r, [], _, _ => by
    show cmpL (keyC c ++ keyR r) [] = 1
    unfold keyC
    rfl
  | c :: r, d :: s, ha, hb => by
    show cmpL (keyC c ++ keyR r) (keyC d ++ keyR s) = _
    have h1 := ha c List.mem_cons_self
    have h2 := hb d List.mem_cons_self
    rw [cmp_key h1.1 h2.1 h1.2 h2.2, cmp_keys (fun x hx => ha x (List.mem_cons_of_mem _ hx)) (fun x hx => hb x (List.mem_cons_of_mem _ hx))]
    rfl
/-! ### Keys read -/
/-- The text before two noughts, and what stands behind. -/
def unesc : List UInt8 → Option (List UInt8 × List UInt8)
  | [] => none
  | [b] => none
  | b :: c :: r => if b ≠ 0 then (unesc (c :: r)).map fun x => (b :: x.1, x.2) else if c = 0 then some ([], r) else if c = 255 then (unesc r).map fun x => (0 :: x.1, x.2) else none
theorem unesc_esc : ∀ (s u : List UInt8), unesc (esc s ++ 0 :: 0 :: u) = some (s, u)
  | [], u => rfl
  | b :: r, u => by
    have ih := unesc_esc r u
    rw [esc]
    by_cases hb : b = 0
    · subst hb
      rw [if_pos rfl]
      show unesc (0 :: 255 :: (esc r ++ 0 :: 0 :: u)) = _
      rw [unesc, if_neg (by simp), if_neg (by decide), if_pos rfl, ih]
      rfl
    · rw [if_neg hb]
      obtain ⟨c, t, e⟩ : ∃ c t, esc r ++ 0 :: 0 :: u = c :: t := by cases esc r <;> exact ⟨_, _, rfl⟩
      rw [e] at ih
      rw [List.cons_append, e, unesc, if_pos hb, ih]
      rfl
theorem unesc_len : ∀ {s : List UInt8} {x : List UInt8 × List UInt8}, unesc s = some x → x.2.length + 2 ≤ s.length
  | [], _, h => by simp [unesc] at h
  | [b], _, h => by simp [unesc] at h
  | b :: c :: r, x, h => by
    rw [unesc] at h
    split at h
    · obtain ⟨y, hy, rfl⟩ := Option.map_eq_some_iff.1 h
      have := unesc_len hy
      simp at this ⊢
      omega
    · split at h
      · cases h
        simp
      · split at h
        · obtain ⟨y, hy, rfl⟩ := Option.map_eq_some_iff.1 h
          have := unesc_len hy
          simp at this ⊢
          omega
        · cases h
def mk0 (k z : Int) (s : List UInt8) : Cell := (k, z, ⟨s.toArray⟩)
/-- A cell off the front, and what stands behind; none: no cell does. -/
def unkeyC : List UInt8 → Option (Cell × List UInt8)
  | [] => none
  | k :: r =>
    if k = 1 then (if r.length < 8 then none else some (mk0 1 ((bev (r.take 8) : Int) - 9223372036854775808) [], r.drop 8))
    else if k = 2 then (match r with | [] => none | b :: t => some (mk0 2 b.toNat [], t))
    else if k = 3 then (unesc r).map fun x => (mk0 3 0 x.1, x.2)
    else some (mk0 k.toNat 0 [], r)
theorem unkeyC_1 (r : List UInt8) : unkeyC (1 :: r) = if r.length < 8 then none else some (mk0 1 ((bev (r.take 8) : Int) - 9223372036854775808) [], r.drop 8) := by rfl
theorem unkeyC_2 (b : UInt8) (t : List UInt8) : unkeyC (2 :: b :: t) = some (mk0 2 b.toNat [], t) := by rfl
theorem unkeyC_2n : unkeyC [2] = none := by rfl
theorem unkeyC_3 (r : List UInt8) : unkeyC (3 :: r) = (unesc r).map fun x => (mk0 3 0 x.1, x.2) := by rfl
theorem unkeyC_o {k : UInt8} (h1 : k ≠ 1) (h2 : k ≠ 2) (h3 : k ≠ 3) (r : List UInt8) : unkeyC (k :: r) = some (mk0 k.toNat 0 [], r) := by
  unfold unkeyC
  dsimp only
  rw [if_neg h1, if_neg h2, if_neg h3]
theorem unkeyC_len {s : List UInt8} {c : Cell} {r : List UInt8} (h : unkeyC s = some (c, r)) : r.length < s.length := by
  cases s with
  | nil => cases h
  | cons k t =>
    unfold unkeyC at h
    dsimp only at h
    by_cases k1 : k = 1
    · rw [if_pos k1] at h
      by_cases hl : t.length < 8
      · rw [if_pos hl] at h; cases h
      · rw [if_neg hl] at h
        injection h with h
        injection h with _ h
        rw [← h, List.length_drop, List.length_cons]
        omega
    · rw [if_neg k1] at h
      by_cases k2 : k = 2
      · rw [if_pos k2] at h
        cases t with
        | nil => cases h
        | cons b t =>
          injection h with h
          injection h with _ h
          rw [← h, List.length_cons, List.length_cons]
          omega
      · rw [if_neg k2] at h
        by_cases k3 : k = 3
        · rw [if_pos k3] at h
          obtain ⟨x, hx, e⟩ := Option.map_eq_some_iff.1 h
          have := unesc_len hx
          injection e with _ e
          rw [← e, List.length_cons]
          omega
        · rw [if_neg k3] at h
          injection h with h
          injection h with _ h
          rw [← h, List.length_cons]
          omega
def unkeyR (s : List UInt8) : Option (List Cell) := if hs : s = [] then some [] else
  match h : unkeyC s with
  | none => none
  | some (c, r) => if cellOK c then (unkeyR r).map (c :: ·) else none
termination_by s.length
decreasing_by exact unkeyC_len h
theorem unkeyR_nil : unkeyR [] = some [] := by rw [unkeyR]; rfl
theorem unkeyR_none {s : List UInt8} (hs : s ≠ []) (h : unkeyC s = none) : unkeyR s = none := by
  rw [unkeyR, dif_neg hs]
  split
  · rfl
  · rename_i e; rw [h] at e; cases e
theorem unkeyR_some {s : List UInt8} {c : Cell} {r : List UInt8} (hs : s ≠ []) (h : unkeyC s = some (c, r)) : unkeyR s = if cellOK c then (unkeyR r).map (c :: ·) else none := by
  rw [unkeyR, dif_neg hs]
  split
  · rename_i e; rw [h] at e; cases e
  · rename_i e; rw [h] at e; cases e; rfl
theorem keyC_ne (c : Cell) (u : List UInt8) : keyC c ++ u ≠ [] := by unfold keyC; simp
theorem mk0_eq {c : Cell} {s : List UInt8} (h : B c.2.2 = s) : mk0 c.1 c.2.1 s = c := by
  subst h
  exact Prod.ext rfl (Prod.ext rfl (B_inj (B_mk _)))
theorem unkey_key {c : Cell} (hc : cellOK c = true) (qc : cellQ c) (u : List UInt8) : unkeyC (keyC c ++ u) = some (c, u) := by
  unfold keyC
  rcases cellOK_kind hc with k | k | k | k
  · obtain ⟨a1, a2⟩ := ok0 hc k
    rw [k]
    show some (mk0 0 0 [], u) = _
    have e := mk0_eq (c := c) a2
    rw [k, a1] at e
    rw [e]
  · have a2 := ok1 hc k
    rw [k]
    show unkeyC (1 :: (be 8 (bias c.2.1) ++ u)) = _
    have hl := be_length 8 (bias c.2.1)
    rw [unkeyC_1, if_neg (by rw [List.length_append, hl]; omega), List.take_left' hl, List.drop_left' hl, bev_be, Nat.mod_eq_of_lt (by unfold bias; have := qc.2.1; omega)]
    have : ((bias c.2.1 : Nat) : Int) - 9223372036854775808 = c.2.1 := by unfold bias; have := qc.2.1; omega
    rw [this, show mk0 1 c.2.1 [] = c from by rw [← k]; exact mk0_eq a2]
  · obtain ⟨a1, a2⟩ := ok2 hc k
    rw [k]
    show unkeyC (2 :: (UInt8.ofNat c.2.1.toNat :: u)) = _
    rw [unkeyC_2]
    show some (mk0 2 (((UInt8.ofNat c.2.1.toNat).toNat : Nat) : Int) [], u) = _
    have : (((UInt8.ofNat c.2.1.toNat).toNat : Nat) : Int) = c.2.1 := by rw [UInt8.toNat_ofNat']; omega
    rw [this, show mk0 2 c.2.1 [] = c from by rw [← k]; exact mk0_eq a1]
  · obtain ⟨a1, a2⟩ := ok3 hc k
    rw [k]
    show unkeyC (3 :: (esc (B c.2.2) ++ [0, 0] ++ u)) = _
    rw [unkeyC_3, List.append_assoc]
    show Option.map _ (unesc (esc (B c.2.2) ++ 0 :: 0 :: u)) = _
    rw [unesc_esc]
    show some (mk0 3 0 (B c.2.2), u) = _
    rw [show mk0 3 0 (B c.2.2) = c from by
      have := mk0_eq (c := c) rfl
      rw [k, a1] at this
      exact this]
theorem unkey_keys : ∀ {row : List Cell}, (∀ c ∈ row, cellOK c = true ∧ cellQ c) → unkeyR (keyR row) = some row
  | [], _ => unkeyR_nil
  | c :: r, h => by
    have h1 := h c List.mem_cons_self
    show unkeyR (keyC c ++ keyR r) = _
    rw [unkeyR_some (keyC_ne c _) (unkey_key h1.1 h1.2 _), if_pos h1.1, unkey_keys (fun x hx => h x (List.mem_cons_of_mem _ hx))]
    rfl
end Go.Proofs.YtlpniinmomhkcaaDoor.V
