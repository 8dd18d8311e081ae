/- The generator's soundness, part 1: what is known of a frame's slots; one operation. -/
import Derived.Test.YtlpniinmomhkcaaDoorV
import Derived.Laws.Sem
import Derived.Laws.BitsLemmas
set_option linter.unusedVariables false
set_option linter.unusedSimpArgs false
namespace Go.Proofs.YtlpniinmomhkcaaDoor.V
open Go

/-- Frames of functions (none) and of rounds. -/
def Fr (ro : Option Nat) : Fence := { Fence.wide with round := ro }
theorem Fr_none : Fr none = Fence.wide := rfl

def Holds (k : Nat) (a : Act) : EV → Prop
  | .d ds => a.defers = ds
  | e => a.tmps[k]? = some e.val
structure Agree (N : Nat) (ρ : Env) (a : Act) : Prop where
  size : a.tmps.size = N
  all : ∀ k e, (k, e) ∈ ρ → Holds k a e

theorem get_mem {ρ : Env} {k : Nat} {e : EV} (h : Env.get ρ k = some e) : (k, e) ∈ ρ := by
  induction ρ with
  | nil => simp [Env.get] at h
  | cons p r ih =>
    obtain ⟨i, e'⟩ := p
    unfold Env.get at h
    cases hb : Nat.beq i k with
    | true =>
      rw [hb] at h
      obtain rfl : e' = e := by simpa using h
      rw [Nat.eq_of_beq_eq_true hb]
      exact List.mem_cons_self
    | false => rw [hb] at h; exact List.mem_cons_of_mem _ (ih h)
theorem memN_iff {k : Nat} {l : List Nat} : memN k l = true ↔ k ∈ l := by
  induction l with
  | nil => simp [memN]
  | cons i r ih =>
    unfold memN
    cases hb : Nat.beq i k with
    | true => simp [Nat.eq_of_beq_eq_true hb]
    | false =>
      have : i ≠ k := fun e => by rw [e, Nat.beq_refl] at hb; cases hb
      simp [ih, this.symm]
theorem mem_keysOf {ρ : Env} {k : Nat} {e : EV} (h : (k, e) ∈ ρ) : k ∈ keysOf ρ := by
  induction ρ with
  | nil => cases h
  | cons p r ih =>
    obtain ⟨i, e'⟩ := p
    rcases List.mem_cons.1 h with h | h
    · injection h with h1 h2; subst h1; exact List.mem_cons_self
    · exact List.mem_cons_of_mem _ (ih h)
theorem mem_rmE {ρ : Env} {d k : Nat} {e : EV} (h : (k, e) ∈ rmE d ρ) : (k, e) ∈ ρ ∧ k ≠ d := by
  induction ρ with
  | nil => cases h
  | cons p r ih =>
    obtain ⟨i, e'⟩ := p
    unfold rmE at h
    cases hb : Nat.beq i d with
    | true => rw [hb] at h; exact ⟨List.mem_cons_of_mem _ (ih h).1, (ih h).2⟩
    | false =>
      rw [hb] at h
      rcases List.mem_cons.1 h with h | h
      · injection h with h1 h2
        subst h1 h2
        exact ⟨List.mem_cons_self, fun e => by rw [e, Nat.beq_refl] at hb; cases hb⟩
      · exact ⟨List.mem_cons_of_mem _ (ih h).1, (ih h).2⟩
theorem Agree.sub {N : Nat} {ρ ρ' : Env} {a : Act} (h : Agree N ρ a) (hs : ∀ p, p ∈ ρ' → p ∈ ρ) : Agree N ρ' a := ⟨h.size, fun k e hk => h.all k e (hs _ hk)⟩

section
variable {N : Nat} {ρ fz : Env} {a : Act} {P : Program}
theorem eval_of_slot {k : Nat} {v : Value} (h : a.tmps[k]? = some v) : a.eval (.tmp k) = v := by
  simp [Act.eval, Array.getD_eq_getD_getElem?, h]
theorem ev_sound {x : Operand} {e : EV} (h : ev ρ x = some e) (H : Agree N ρ a) : a.eval x = e.val ∧ ∀ ds, e ≠ .d ds := by
  cases x with
  | tmp k =>
    simp only [ev] at h
    cases hg : Env.get ρ k with
    | none => rw [hg] at h; cases h
    | some e' =>
      rw [hg] at h
      have hm := H.all k e' (get_mem hg)
      cases e' <;> simp at h <;> subst h <;> exact ⟨eval_of_slot hm, fun ds => by simp⟩
  | const v =>
    cases v with
    | bool b => cases b <;> (simp only [ev] at h; injection h with h; subst h; exact ⟨rfl, fun ds => by simp⟩)
    | _ => simp only [ev] at h; injection h with h; subst h; exact ⟨rfl, fun ds => by simp⟩
  | global g => simp only [ev] at h; injection h with h; subst h; exact ⟨rfl, fun ds => by simp⟩
  | func f => simp only [ev] at h; injection h with h; subst h; exact ⟨rfl, fun ds => by simp⟩
theorem ev_eval {x : Operand} {e : EV} (h : ev ρ x = some e) (H : Agree N ρ a) : a.eval x = e.val := (ev_sound h H).1
theorem evT_sound {x : Operand} (h : (ev ρ x).isSome = true) (H : Agree N ρ a) : evT ρ x = a.eval x := by
  unfold evT
  cases he : ev ρ x with
  | none => rw [he] at h; cases h
  | some e => exact (ev_eval he H).symm
theorem known_mem {l : List Operand} (h : known ρ l = true) : ∀ x ∈ l, (ev ρ x).isSome = true := by
  induction l with
  | nil => simp
  | cons x r ih =>
    unfold known at h
    cases he : ev ρ x with
    | none => rw [he] at h; cases h
    | some e =>
      rw [he] at h
      intro y hy
      rcases List.mem_cons.1 hy with rfl | hy
      · simp [he]
      · exact ih h y hy
theorem evs_sound {l : List Operand} {vs : List Value} (h : evs ρ l = some vs) (H : Agree N ρ a) : l.map a.eval = vs := by
  induction l generalizing vs with
  | nil => simp [evs] at h; simp [h]
  | cons x r ih =>
    unfold evs at h
    split at h
    · rename_i e l' he hl
      injection h with h
      subst h
      simp [ev_eval he H, ih hl]
    · cases h
theorem execOp_known {o : Oper} (hk : known ρ o.op.operands.toList = true) (hs : ∀ cs b, o.op ≠ .select cs b) (H : Agree N ρ a) : execOp (evT ρ) o = execOp a.eval o :=
  execOp_congr o hs fun x hx => evT_sound (known_mem hk x (by simpa using hx)) H

theorem pureRun_run {α : Type} : ∀ (s : Sem α) (v : α), pureRun P s = some v → ∀ w, s.run P w = .ok v w := by
  intro s
  induction s with
  | pure a => intro v h w; simp [pureRun] at h; subst h; rfl
  | program k ih => intro v h w; simp only [pureRun] at h; simp only [Sem.run]; exact ih P v h w
  | mark m k ih => intro v h w; simp only [pureRun] at h; simp only [Sem.run]; exact ih v h w
  | _ => intro v h; simp [pureRun] at h
theorem symRun_run : ∀ (s : Sem Value) (K : Value → WP) (w : World), symRun P s K w → ∃ v w', s.run P w = .ok v w' ∧ K v w' := by
  intro s
  induction s with
  | pure a => intro K w h; exact ⟨a, w, rfl, h⟩
  | program k ih => intro K w h; exact ih P K w h
  | mark m k ih => intro K w h; exact ih K w h
  | new o k ih => intro K w h; exact ih w.heap.size K _ h
  | _ => intro K w h; exact h.elim

theorem pureDef_sound {o : Oper} {k : EV → WP} {w : World} (hs : ∀ cs b, o.op ≠ .select cs b) (h : pureDef P ρ o k w) (H : Agree N ρ a) :
    ∃ e, k e w ∧ ∀ w', (execOp a.eval o).run P w' = .ok (.value e.val) w' := by
  obtain ⟨W, hW, h⟩ : ∃ W, W = pureDef P ρ o k ∧ W w := ⟨_, rfl, h⟩
  unfold pureDef at hW
  split at hW
  · subst hW; exact h.elim
  · rename_i hk
    split at hW
    · rename_i v hv
      subst hW
      refine ⟨.v v, h, fun w' => ?_⟩
      rw [← execOp_known hk hs H]
      exact pureRun_run _ _ hv w'
    · subst hW; exact h.elim

theorem run_underlying' {t : TypeId} {d : TypeDesc} (h : P.underlying t = some d) (w : World) : (underlying t).run P w = .ok d w := by
  simp [underlying, h]
theorem run_sizeOf' {t : TypeId} {z : Nat} (h : szOf P t = some z) (w : World) : (sizeOf t).run P w = .ok z w := by
  unfold szOf at h
  cases hi : P.info? t with
  | none => rw [hi] at h; cases h
  | some i => rw [hi] at h; simp at h; simp [sizeOf, typeInfo, hi, h]

/-- What an operation that is run by itself yields. -/
def Gives (P : Program) (a : Act) (o : Oper) (v : Value) : Prop := ∀ w', (execOp a.eval o).run P w' = .ok (.value v) w'

theorem gives_bin {o : Oper} {op : BinOp} {t t' : TypeId} {x y : Operand} {v : Value} (ho : o.op = .binOp op t x y t')
    (h : ∀ w, (do eqGuard op t x y (a.eval x) (a.eval y); binOp op t (a.eval x) (a.eval y) : Sem Value).run P w = .ok v w) : Gives P a o v := by
  intro w
  have := h w
  obtain ⟨dst, op', type, pos, after, guard⟩ := o
  simp only at ho
  subst ho
  simp only [execOp]
  rw [Sem.run_bind, this]
  rfl
theorem noGuard {op : BinOp} {t : TypeId} {x y : Operand} {u v : Value} (h : op ≠ .eql ∧ op ≠ .neq) (w : World) : (eqGuard op t x y u v).run P w = .ok () w := by
  unfold eqGuard
  cases op <;> simp at h <;> rfl
theorem gives_bin' {o : Oper} {op : BinOp} {t t' : TypeId} {x y : Operand} {v u1 u2 : Value} (ho : o.op = .binOp op t x y t') (hx : a.eval x = u1) (hy : a.eval y = u2) (hop : op ≠ .eql ∧ op ≠ .neq)
    (h : ∀ w, (binOp op t u1 u2).run P w = .ok v w) : Gives P a o v :=
  gives_bin ho fun w => by rw [hx, hy, Sem.run_bind, noGuard hop, Result.andThen_ok]; exact h w
theorem run_quo {t : TypeId} {k j : IntKind} {m n : Int} (w : World) (h : k = j) (hn : n ≠ 0) : (binOp .quo t (.int k m) (.int j n)).run P w = .ok (.int k (k.wrap (m.tdiv n))) w := by
  subst h; simp [binOp, Op.intDiv, hn]
theorem run_rem {t : TypeId} {k j : IntKind} {m n : Int} (w : World) (h : k = j) (hn : n ≠ 0) : (binOp .rem t (.int k m) (.int j n)).run P w = .ok (.int k (m.tmod n)) w := by
  subst h; simp [binOp, Op.intDiv, hn]
theorem run_shl {t : TypeId} {k j : IntKind} {m n : Int} (w : World) (hn : 0 ≤ n) : (binOp .shl t (.int k m) (.int j n)).run P w = .ok (.int k (k.wrap (m * 2 ^ (min n.toNat k.bits)))) w := by
  simp [binOp, Op.shift, show ¬ n < 0 by omega]
theorem run_shr {t : TypeId} {k j : IntKind} {m n : Int} (w : World) (hn : 0 ≤ n) : (binOp .shr t (.int k m) (.int j n)).run P w = .ok (.int k (m.fdiv (2 ^ (min n.toNat k.bits)))) w := by
  simp [binOp, Op.shift, show ¬ n < 0 by omega]
theorem run_cat {t : TypeId} {x y : ByteArray} (w : World) (h : ((x.size + y.size : Nat) : Int) ≤ IntKind.i64.max) : (binOp .add t (.string x) (.string y)).run P w = .ok (.string (x ++ y)) w := by
  simp only [binOp, Op.stringOp]
  rw [if_neg (by omega)]
  rfl

theorem eqIn_ptr {t e : TypeId} {p : Option Addr} (ht : P.underlying t = some (.pointer e)) (d : Nat) (w : World) : (Op.equalIn (d + 1) t (.pointer p) (.pointer none)).run P w = .ok p.isNone w := by
  unfold Op.equalIn
  rw [Sem.run_bind, run_underlying' ht, Result.andThen_ok]
  cases p <;> rfl
theorem eqIn_slc {t e : TypeId} {p : Option Addr} {n c n' c' : Nat} (ht : P.underlying t = some (.slice e)) (d : Nat) (w : World) : (Op.equalIn (d + 1) t (.slice p n c) (.slice none n' c')).run P w = .ok p.isNone w := by
  unfold Op.equalIn
  rw [Sem.run_bind, run_underlying' ht, Result.andThen_ok]
  cases p <;> rfl
theorem run_isNil_ptr {t e : TypeId} {x y : Operand} {p : Option Addr} (ht : P.underlying t = some (.pointer e)) (w : World) :
    (do eqGuard .eql t x y (.pointer p) (.pointer none); binOp .eql t (.pointer p) (.pointer none) : Sem Value).run P w = .ok (.bool p.isNone) w := by
  have hg : (eqGuard .eql t x y (.pointer p) (.pointer none)).run P w = .ok () w := rfl
  have hb : binOp .eql t (.pointer p) (.pointer none) = (do pure (.bool (← Op.equalIn (9999 + 1) t (.pointer p) (.pointer none)))) := rfl
  rw [Sem.run_bind, hg, Result.andThen_ok, hb, Sem.run_bind, eqIn_ptr ht]
  rfl
theorem run_isNil_slc {t e : TypeId} {x y : Operand} {p : Option Addr} {n c n' c' : Nat} (ht : P.underlying t = some (.slice e)) (w : World) :
    (do eqGuard .eql t x y (.slice p n c) (.slice none n' c'); binOp .eql t (.slice p n c) (.slice none n' c') : Sem Value).run P w = .ok (.bool p.isNone) w := by
  have hg : (eqGuard .eql t x y (.slice p n c) (.slice none n' c')).run P w = .ok () w := rfl
  have hb : binOp .eql t (.slice p n c) (.slice none n' c') = (do pure (.bool (← Op.equalIn (9999 + 1) t (.slice p n c) (.slice none n' c')))) := rfl
  rw [Sem.run_bind, hg, Result.andThen_ok, hb, Sem.run_bind, eqIn_slc ht]
  rfl
theorem run_notNil_ptr {t e : TypeId} {x y : Operand} {p : Option Addr} (ht : P.underlying t = some (.pointer e)) (w : World) :
    (do eqGuard .neq t x y (.pointer p) (.pointer none); binOp .neq t (.pointer p) (.pointer none) : Sem Value).run P w = .ok (.bool (!p.isNone)) w := by
  have hg : (eqGuard .neq t x y (.pointer p) (.pointer none)).run P w = .ok () w := rfl
  have hb : binOp .neq t (.pointer p) (.pointer none) = (do pure (.bool (!(← Op.equalIn (9999 + 1) t (.pointer p) (.pointer none))))) := rfl
  rw [Sem.run_bind, hg, Result.andThen_ok, hb, Sem.run_bind, eqIn_ptr ht]
  rfl
theorem run_notNil_slc {t e : TypeId} {x y : Operand} {p : Option Addr} {n c n' c' : Nat} (ht : P.underlying t = some (.slice e)) (w : World) :
    (do eqGuard .neq t x y (.slice p n c) (.slice none n' c'); binOp .neq t (.slice p n c) (.slice none n' c') : Sem Value).run P w = .ok (.bool (!p.isNone)) w := by
  have hg : (eqGuard .neq t x y (.slice p n c) (.slice none n' c')).run P w = .ok () w := rfl
  have hb : binOp .neq t (.slice p n c) (.slice none n' c') = (do pure (.bool (!(← Op.equalIn (9999 + 1) t (.slice p n c) (.slice none n' c'))))) := rfl
  rw [Sem.run_bind, hg, Result.andThen_ok, hb, Sem.run_bind, eqIn_slc ht]
  rfl

theorem binP_sound {o : Oper} {op : BinOp} {t t' : TypeId} {x y : Operand} {k : EV → WP} {w : World} (ho : o.op = .binOp op t x y t') (h : binP P ρ o op t x y k w) (H : Agree N ρ a) :
    ∃ e, k e w ∧ Gives P a o e.val := by
  have hs : ∀ cs b, o.op ≠ .select cs b := fun cs b e => by rw [ho] at e; cases e
  have hd : pureDef P ρ o k w → ∃ e, k e w ∧ Gives P a o e.val := fun hd => pureDef_sound hs hd H
  obtain ⟨W, hW, h⟩ : ∃ W, W = binP P ρ o op t x y k ∧ W w := ⟨_, rfl, h⟩
  cases op <;> simp only [binP] at hW <;> try (subst hW; exact hd h)
  case quo =>
    (repeat' split at hW) <;> subst hW <;> first | exact hd h | exact h.elim | skip
    rename_i hx hy _ hk
    exact ⟨_, h.2, gives_bin' ho (ev_eval hx H) (ev_eval hy H) (by simp) fun w => run_quo w (of_decide_eq_true hk) h.1⟩
  case rem =>
    (repeat' split at hW) <;> subst hW <;> first | exact hd h | exact h.elim | skip
    rename_i hx hy _ hk
    exact ⟨_, h.2, gives_bin' ho (ev_eval hx H) (ev_eval hy H) (by simp) fun w => run_rem w (of_decide_eq_true hk) h.1⟩
  case shl =>
    (repeat' split at hW) <;> subst hW <;> first | exact hd h | exact h.elim | skip
    rename_i hx hy
    exact ⟨_, h.2, gives_bin' ho (ev_eval hx H) (ev_eval hy H) (by simp) fun w => run_shl w h.1⟩
  case shr =>
    (repeat' split at hW) <;> subst hW <;> first | exact hd h | exact h.elim | skip
    rename_i hx hy
    exact ⟨_, h.2, gives_bin' ho (ev_eval hx H) (ev_eval hy H) (by simp) fun w => run_shr w h.1⟩
  case add =>
    (repeat' split at hW) <;> subst hW <;> first | exact hd h | skip
    rename_i hx hy
    exact ⟨_, h.2, gives_bin' ho (ev_eval hx H) (ev_eval hy H) (by simp) fun w => run_cat w h.1⟩
  case eql =>
    (repeat' split at hW) <;> subst hW <;> first | exact hd h | exact h.elim | skip
    · rename_i hx hy _ _ ht
      exact ⟨_, h, gives_bin ho fun w => by rw [ev_eval hx H, ev_eval hy H]; exact run_isNil_ptr ht w⟩
    · rename_i hx hy _ _ ht
      exact ⟨_, h, gives_bin ho fun w => by rw [ev_eval hx H, ev_eval hy H]; exact run_isNil_slc ht w⟩
    · rename_i hx hy
      obtain ⟨b, hb, h⟩ := h
      exact ⟨_, h, gives_bin ho fun w => by rw [ev_eval hx H, ev_eval hy H]; exact hb w⟩
  case neq =>
    (repeat' split at hW) <;> subst hW <;> first | exact hd h | exact h.elim | skip
    · rename_i hx hy _ _ ht
      exact ⟨_, h, gives_bin ho fun w => by rw [ev_eval hx H, ev_eval hy H]; exact run_notNil_ptr ht w⟩
    · rename_i hx hy _ _ ht
      exact ⟨_, h, gives_bin ho fun w => by rw [ev_eval hx H, ev_eval hy H]; exact run_notNil_slc ht w⟩
    · rename_i hx hy
      obtain ⟨b, hb, h⟩ := h
      exact ⟨_, h, gives_bin ho fun w => by rw [ev_eval hx H, ev_eval hy H]; exact hb w⟩
end
end Go.Proofs.YtlpniinmomhkcaaDoor.V
