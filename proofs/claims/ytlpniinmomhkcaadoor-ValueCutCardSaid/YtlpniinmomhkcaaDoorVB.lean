/- The generator's soundness, part 2: operations. -/
import Derived.Test.YtlpniinmomhkcaaDoorVA
set_option linter.unusedVariables false
set_option linter.unusedSimpArgs false
namespace Go.Proofs.YtlpniinmomhkcaaDoor.V
open Go
section
variable {N : Nat} {ρ fz : Env} {a : Act} {P : Program}

theorem isPure_sel {o : Oper} (h : isPure P o = true) : (∀ cs b, o.op ≠ .select cs b) ∧ (∀ c, o.op ≠ .defer c) := by
  constructor
  · intro cs b e; simp [isPure, e] at h
  · intro c e; simp [isPure, e] at h

def Bnd : Option Value → Option Int → Prop
  | none, none => True
  | some x, some n => ∃ k, x = .int k n
  | _, _ => False
theorem bound_map {x : Option Operand} {r : Option Int} (h : boundOf ρ x = some r) (H : Agree N ρ a) : Bnd (x.map a.eval) r := by
  cases x with
  | none => simp only [boundOf] at h; injection h with h; subst h; trivial
  | some x =>
    simp only [boundOf] at h
    split at h
    · rename_i k n hx
      injection h with h
      subst h
      exact ⟨k, ev_eval hx H⟩
    · cases h

theorem run_bound {k : IntKind} {i : Int} {y : Nat} {c : BoundsCode} (h0 : 0 ≤ i) (h1 : i ≤ y) (w : World) : (Instr.sliceBound (.int k i) y c).run P w = .ok i.toNat w := by
  simp [Instr.sliceBound, asIntOf, h0, h1]

theorem slice_gives {o : Oper} {t : TypeId} {x : Operand} {lo hi mx : Option Operand} {v : Value} (ho : o.op = .slice t x lo hi mx) (hv : ∀ w, (Instr.sliceAt t (a.eval x) (lo.map a.eval) (hi.map a.eval) (mx.map a.eval)).run P w = .ok v w) : Gives P a o v := by
  intro w
  obtain ⟨dst, op', type, pos, after, guard⟩ := o
  simp only at ho
  subst ho
  simp only [execOp]
  rw [Sem.run_bind, hv w]
  rfl

theorem sliceStr_sound {s : ByteArray} {l h : Option Int} {k : EV → WP} {w : World} (hk : sliceStr s l h k w) {lv hv : Option Value}
    (hl : Bnd lv l)
    (hh : Bnd hv h)
    {t : TypeId} (ht : P.underlying t = some .string) :
    ∃ e, k e w ∧ ∀ w', (Instr.sliceAt t (.string s) lv hv none).run P w' = .ok e.val w' := by
  have e0 : ∀ w' : World, (Instr.sliceAt t (.string s) lv hv none).run P w' = (do let (l, h, _) ← Instr.sliceBounds false s.size s.size lv hv none; pure (Value.string (s.extract l h)) : Sem Value).run P w' := by
    intro w'
    unfold Instr.sliceAt
    rw [Sem.run_bind, run_underlying' ht, Result.andThen_ok]
    show (Instr.slice t (.string s) lv hv none).run P w' = _
    unfold Instr.slice
    rw [Sem.run_bind, run_underlying' ht, Result.andThen_ok]
    rfl
  cases lv <;> cases l <;> simp only [Bnd] at hl <;> cases hv <;> cases h <;> simp only [Bnd] at hh
  · exact ⟨_, hk, fun w' => by rw [e0]; simp [Instr.sliceBounds, EV.val]⟩
  · obtain ⟨kk, rfl⟩ := hh
    obtain ⟨⟨h0, h1⟩, hk⟩ := hk
    exact ⟨_, hk, fun w' => by rw [e0]; simp [Instr.sliceBounds, run_bound h0 h1, EV.val]⟩
  · obtain ⟨kk, rfl⟩ := hl
    obtain ⟨⟨h0, h1⟩, hk⟩ := hk
    exact ⟨_, hk, fun w' => by rw [e0]; simp [Instr.sliceBounds, run_bound h0 h1, EV.val]⟩
  · obtain ⟨kk, rfl⟩ := hl
    obtain ⟨kh, rfl⟩ := hh
    obtain ⟨⟨h0, h1, h2⟩, hk⟩ := hk
    rename_i lo hi
    have h3 : lo ≤ (hi.toNat : Int) := by omega
    exact ⟨_, hk, fun w' => by rw [e0]; simp [Instr.sliceBounds, run_bound (show 0 ≤ hi by omega) h2, run_bound h0 h3, EV.val]⟩

theorem sliceSlc_sound {A : Option Addr} {n c z : Nat} {l h m : Option Int} {k : EV → WP} {w : World} (hk : sliceSlc A n c z l h m k w) {lv hv mv : Option Value}
    (hl : Bnd lv l)
    (hh : Bnd hv h)
    (hm : Bnd mv m)
    {t e : TypeId} (ht : P.underlying t = some (.slice e)) (hz : szOf P e = some z) :
    ∃ e, k e w ∧ ∀ w', (Instr.sliceAt t (.slice A n c) lv hv mv).run P w' = .ok e.val w' := by
  have e0 : ∀ w' : World, (Instr.sliceAt t (.slice A n c) lv hv mv).run P w' = (do
      let (l, h, m) ← Instr.sliceBounds true n c lv hv mv
      let size ← sizeOf e
      pure (Value.slice (if m = l then A else A.map (·.add (l * size))) (h - l) (m - l)) : Sem Value).run P w' := by
    intro w'
    unfold Instr.sliceAt
    rw [Sem.run_bind, run_underlying' ht, Result.andThen_ok]
    show (Instr.slice t (.slice A n c) lv hv mv).run P w' = _
    unfold Instr.slice
    rw [Sem.run_bind, run_underlying' ht, Result.andThen_ok]
  have hzz := fun w' => run_sizeOf' (P := P) hz w'
  cases lv <;> cases l <;> simp only [Bnd] at hl <;> cases hv <;> cases h <;> simp only [Bnd] at hh <;> cases mv <;> cases m <;> simp only [Bnd] at hm <;> try (exact hk.elim)
  · exact ⟨_, hk, fun w' => by rw [e0]; simp [Instr.sliceBounds, EV.val, hzz, cutAddr]⟩
  · obtain ⟨kk, rfl⟩ := hh
    obtain ⟨⟨h0, h1⟩, hk⟩ := hk
    exact ⟨_, hk, fun w' => by rw [e0]; simp [Instr.sliceBounds, run_bound h0 h1, EV.val, hzz, cutAddr]⟩
  · obtain ⟨kk, rfl⟩ := hh
    obtain ⟨km, rfl⟩ := hm
    obtain ⟨⟨h0, h1, h2⟩, hk⟩ := hk
    rename_i hi mi
    have h3 : hi ≤ (mi.toNat : Int) := by omega
    exact ⟨_, hk, fun w' => by rw [e0]; simp [Instr.sliceBounds, run_bound h0 h3, run_bound (show 0 ≤ mi by omega) h2, EV.val, hzz, cutAddr]⟩
  · obtain ⟨kk, rfl⟩ := hl
    obtain ⟨⟨h0, h1⟩, hk⟩ := hk
    exact ⟨_, hk, fun w' => by rw [e0]; simp [Instr.sliceBounds, run_bound h0 h1, EV.val, hzz, cutAddr]⟩
  · obtain ⟨kk, rfl⟩ := hl
    obtain ⟨kh, rfl⟩ := hh
    obtain ⟨⟨h0, h1, h2⟩, hk⟩ := hk
    rename_i lo hi
    have h3 : lo ≤ (hi.toNat : Int) := by omega
    exact ⟨_, hk, fun w' => by rw [e0]; simp [Instr.sliceBounds, run_bound (show 0 ≤ hi by omega) h2, run_bound h0 h3, EV.val, hzz, cutAddr]⟩
  · obtain ⟨kk, rfl⟩ := hl
    obtain ⟨kh, rfl⟩ := hh
    obtain ⟨km, rfl⟩ := hm
    obtain ⟨⟨h0, h1, h2, h4⟩, hk⟩ := hk
    rename_i lo hi mi
    have h3 : lo ≤ (hi.toNat : Int) := by omega
    have h5 : hi ≤ (mi.toNat : Int) := by omega
    exact ⟨_, hk, fun w' => by rw [e0]; simp [Instr.sliceBounds, run_bound (show 0 ≤ mi by omega) h4, run_bound (show 0 ≤ hi by omega) h5, run_bound h0 h3, EV.val, hzz, cutAddr]⟩

theorem oneCellT_sound {t : TypeId} (h : oneCellT P t = true) : (∀ w, (isAgg t).run P w = .ok false w) ∧ (∀ w, (sizeOf t).run P w = .ok 1 w) := by
  unfold oneCellT at h
  cases hi : P.info? t with
  | none => rw [hi] at h; cases h
  | some i =>
    rw [hi] at h
    simp only at h
    split at h
    · cases h
    · cases h
    · rename_i d hn1 hn2 hsz hd
      constructor
      · intro w
        unfold isAgg
        rw [Sem.run_bind, run_underlying' hd, Result.andThen_ok]
        cases d <;> first | rfl | exact (hn1 _ rfl).elim | exact (hn2 _ _ rfl).elim
      · intro w; simp [sizeOf, typeInfo, hi, hsz]
    · cases h
theorem pureOp_sound {o : Oper} {k : EV → WP} {w : World} (hp : isPure P o = true) (hk : pureOp P ρ o k w) (H : Agree N ρ a) :
    ∃ e, k e w ∧ Gives P a o e.val := by
  obtain ⟨hs, hnd⟩ := isPure_sel hp
  have hd : pureDef P ρ o k w → ∃ e, k e w ∧ Gives P a o e.val := fun hd => pureDef_sound hs hd H
  obtain ⟨W, hW, h⟩ : ∃ W, W = pureOp P ρ o k ∧ W w := ⟨_, rfl, hk⟩
  clear hk
  obtain ⟨dst, op, type, pos, after, guard⟩ := o
  cases op <;> (try (simp [isPure] at hp; done)) <;> simp only [pureOp] at hW <;> try (subst hW; exact hd h)
  case move x =>
    split at hW <;> subst hW
    · rename_i e he
      exact ⟨e, h, fun w' => by simp [execOp, ev_eval he H]⟩
    · exact h.elim
  case assign x =>
    split at hW <;> subst hW
    · rename_i e he
      exact ⟨e, h, fun w' => by simp [execOp, ev_eval he H]⟩
    · exact h.elim
  case pick c x y =>
    (repeat' split at hW) <;> subst hW <;> try (exact h.elim)
    · rename_i hc _ e he
      exact ⟨e, h, fun w' => by simp [execOp, ev_eval hc H, ev_eval he H, EV.val, asBool]⟩
    · rename_i hc _ e he
      exact ⟨e, h, fun w' => by simp [execOp, ev_eval hc H, ev_eval he H, EV.val, asBool]⟩
  case binOp op t x y t' => subst hW; exact binP_sound (o := ⟨dst, .binOp op t x y t', type, pos, after, guard⟩) rfl h H
  case unOp op t x =>
    cases op <;> simp only [pureOp] at hW <;> try (subst hW; exact hd h)
    (repeat' split at hW) <;> subst hW <;> try (exact h.elim)
    · rename_i hx; exact ⟨_, h, fun w' => by simp [execOp, ev_eval hx H, EV.val, Op.unary]⟩
    · rename_i hx; exact ⟨_, h, fun w' => by simp [execOp, ev_eval hx H, EV.val, Op.unary]⟩
    · rename_i hx; exact ⟨_, h, fun w' => by simp [execOp, ev_eval hx H, EV.val, Op.unary]⟩
  case nilCheck x =>
    (repeat' split at hW) <;> subst hW <;> try (exact h.elim)
    · rename_i hx
      obtain ⟨ad, rfl, h⟩ := h
      exact ⟨_, h, fun w' => by simp [execOp, ev_eval hx H, EV.val]⟩
    · rename_i hx; exact ⟨_, h, fun w' => by simp [execOp, ev_eval hx H, EV.val]⟩
    · rename_i hx; exact ⟨_, h, fun w' => by simp [execOp, ev_eval hx H, EV.val]⟩
  case indexAddr t x i =>
    (repeat' split at hW) <;> subst hW <;> try (exact h.elim)
    · rename_i ht hx hi _ _ hz
      obtain ⟨⟨h0, h1⟩, ad, rfl, h⟩ := h
      refine ⟨_, h, fun w' => ?_⟩
      simp [execOp, ev_eval hx H, ev_eval hi H, EV.val, Instr.indexAt, asIntOf, run_underlying' ht, h0, h1, run_sizeOf' hz]
    · rename_i ht hx hi _ _ hz
      obtain ⟨⟨h0, h1⟩, h⟩ := h
      refine ⟨_, h, fun w' => ?_⟩
      simp [execOp, ev_eval hx H, ev_eval hi H, EV.val, Instr.indexAt, asIntOf, run_underlying' ht, h0, h1, run_sizeOf' hz, Instr.sureAddr]
  case index t x i =>
    (repeat' split at hW) <;> subst hW <;> try (exact h.elim)
    · rename_i s _ j ht hx hi
      obtain ⟨⟨h0, h1⟩, h⟩ := h
      refine ⟨_, h, fun w' => ?_⟩
      have hlt : j.toNat < s.size := by omega
      have hb : s[j.toNat]? = some (s[j.toNat]'hlt) := by simp [hlt]
      have hb' : bt s j = ((s[j.toNat]'hlt).toNat : Int) := by
        unfold bt
        have : s.data[j.toNat]? = some (s[j.toNat]'hlt) := by
          rw [Array.getElem?_eq_getElem (by simpa using hlt)]
          rfl
        rw [this]; rfl
      simp [execOp, ev_eval hx H, ev_eval hi H, EV.val, Instr.index, asIntOf, run_underlying' ht, h0, hb, hb']
    · rename_i n el cs _ j ht hx hi _ hone
      obtain ⟨⟨h0, h1, h2⟩, h⟩ := h
      obtain ⟨hag, hsz⟩ := oneCellT_sound (P := P) hone
      refine ⟨_, h, fun w' => ?_⟩
      have hlt : j.toNat < cs.size := by omega
      have hb : cs[j.toNat]? = some (cs[j.toNat]'hlt) := by simp [hlt]
      simp [execOp, ev_eval hx H, ev_eval hi H, EV.val, Instr.index, asIntOf, run_underlying' ht, h0, h1, hsz, part, hag, hb]
  case slice t x lo hi mx =>
    (repeat' split at hW) <;> subst hW <;> try (exact h.elim)
    · rename_i ht hx hl hh hm
      have hmx : mx = none := by
        have := bound_map hm H
        cases mx <;> simp_all [Bnd]
      subst hmx
      obtain ⟨e, he, hg⟩ := sliceStr_sound h (bound_map hl H) (bound_map hh H) ht
      exact ⟨e, he, slice_gives rfl fun w' => by rw [ev_eval hx H]; exact hg w'⟩
    · rename_i ht hx hl hh hm _ _ hz
      obtain ⟨e, he, hg⟩ := sliceSlc_sound h (bound_map hl H) (bound_map hh H) (bound_map hm H) ht hz
      exact ⟨e, he, slice_gives rfl fun w' => by rw [ev_eval hx H]; exact hg w'⟩
end
end Go.Proofs.YtlpniinmomhkcaaDoor.V
