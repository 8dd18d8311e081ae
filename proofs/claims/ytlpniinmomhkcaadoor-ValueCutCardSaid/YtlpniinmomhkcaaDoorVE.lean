/- The generator's soundness, part 5: code; a function's body. -/
import Derived.Test.YtlpniinmomhkcaaDoorVD
import Derived.RangeFuncRecord
set_option linter.unusedVariables false
set_option linter.unusedSimpArgs false
namespace Go.Proofs.YtlpniinmomhkcaaDoor.V
open Go
section
variable {N : Nat} {ρ fz : Env} {a : Act} {P : Program} {A : Array Oper} {ro : Option Nat} {n : Nat}

theorem deLf_val {l : Lf} {v : Value} {x : l.T} (h : deLf l v = some x) : l.val x = v := by
  cases l with
  | int k =>
    cases v <;> simp only [deLf] at h <;> try (cases h; done)
    split at h
    · rename_i hk
      injection h with h
      subst h hk
      rfl
    · cases h
  | bool => cases v <;> simp only [deLf] at h <;> first | (injection h with h; subst h; rfl) | cases h
  | str => cases v <;> simp only [deLf] at h <;> first | (injection h with h; subst h; rfl) | cases h
  | ptr => cases v <;> simp only [deLf] at h <;> first | (injection h with h; subst h; rfl) | cases h
  | slc => cases v <;> simp only [deLf] at h <;> first | (injection h with h; subst h; rfl) | cases h
  | any => cases v <;> simp only [deLf] at h <;> first | (injection h with h; subst h; rfl) | cases h
theorem deLT_vals : ∀ {ls : List Lf} {vs : List Value} {x : LT ls}, deLT ls vs = some x → LT.vals ls x = vs
  | [], [], _, _ => rfl
  | [], _ :: _, _, h => by cases h
  | _ :: _, [], _, h => by cases h
  | l :: r, v :: vs, x, h => by
    simp only [deLT] at h
    split at h
    · rename_i y z hy hz
      injection h with h
      subst h
      simp only [LT.vals, deLf_val hy, deLT_vals hz]
    · cases h
theorem deSh_val {s : Sh} {v : Value} {x : s.T} (h : deSh s v = some x) : s.val x = v := by
  cases s with
  | one l => exact deLf_val h
  | agg ls =>
    cases v <;> simp only [deSh] at h <;> try (cases h; done)
    simp only [Sh.val, deLT_vals h]
  | arr n =>
    cases v <;> simp only [deSh] at h <;> try (cases h; done)
    injection h with h
    subst h
    rfl
theorem deLv_holds {l : Lv} {e : EV} {x : l.T} {k : Nat} (h : deLv l e = some x) (H : Holds k a e) : Holds k a (l.ev x) := by
  cases l with
  | sh s =>
    cases e <;> simp only [deLv] at h <;> try (cases h; done)
    · have := deSh_val h; simp only [Holds, Lv.ev, EV.val] at H ⊢; rw [this]; exact H
    · have := deSh_val h; simp only [Holds, Lv.ev, EV.val] at H ⊢; rw [this]; exact H
    · have := deSh_val h; simp only [Holds, Lv.ev, EV.val] at H ⊢; rw [this]; exact H
  | ds =>
    cases e <;> simp only [deLv] at h <;> try (cases h; done)
    injection h with h
    subst h
    exact H
theorem deE_holds : ∀ {ls : List (Nat × Lv)} {x : VT ls}, deE ls ρ = some x → (∀ k e, (k, e) ∈ ρ → Holds k a e) → ∀ k e, (k, e) ∈ envOf ls x → Holds k a e
  | [], _, _, _, k, e, hm => by cases hm
  | l :: r, x, h, H, k, e, hm => by
    simp only [deE] at h
    split at h
    · rename_i e0 hg
      split at h
      · rename_i y z hy hz
        injection h with h
        subst h
        simp only [envOf] at hm
        rcases List.mem_cons.1 hm with hm | hm
        · injection hm with h1 h2
          subst h1 h2
          exact deLv_holds hy (H _ _ (get_mem hg))
        · exact deE_holds hz H k e hm
      · cases h
    · cases h
theorem keepE_mem {l : List Nat} {p : Nat × EV} (h : p ∈ keepE ρ l) : p ∈ ρ := by
  induction l with
  | nil => cases h
  | cons k r ih =>
    simp only [keepE] at h
    split at h
    · rename_i e he
      rcases List.mem_cons.1 h with rfl | h
      · exact get_mem he
      · exact ih h
    · exact ih h

def KQ (N : Nat) (fz : Env) (K : Kn) : Exit → Act → World → Prop
  | .normal, a, w => ∃ ρ, Agree N (ρ ++ fz) a ∧ K.next ρ w
  | .exit i, a, w => ∃ ρ, Agree N (ρ ++ fz) a ∧ K.exit i ρ w
  | .ret, a, w => ∃ ρ, Agree N (ρ ++ fz) a ∧ K.ret ρ w
  | _, _, _ => False
theorem KQ_panic {K : Kn} (c : List PanicEntry) (a : Act) (w : World) (h : KQ N fz K (.panic c) a w) : False := h
theorem KQ_outs {K : Kn} (h : LetsOut (KQ N fz K)) : False := by obtain ⟨a, w, h⟩ := h; exact h

theorem agree_keep (H : Agree N (ρ ++ fz) a) (keep : List Nat) : Agree N (ρ ++ (keepE ρ keep ++ fz)) a := ⟨H.size, fun k e hm => by
  rcases List.mem_append.1 hm with hm | hm
  · exact H.all k e (List.mem_append_left _ hm)
  · rcases List.mem_append.1 hm with hm | hm
    · exact H.all k e (List.mem_append_left _ (keepE_mem hm))
    · exact H.all k e (List.mem_append_right _ hm)⟩
theorem agree_assoc {X Y Z : Env} (H : Agree N (X ++ (Y ++ Z)) a) : Agree N ((X ++ Y) ++ Z) a := by rw [List.append_assoc]; exact H
theorem agree_env {ls : List (Nat × Lv)} {t : VT ls} {ρ' X : Env} (H : Agree N (ρ' ++ X) a) (h : deE ls ρ' = some t) : Agree N (envOf ls t ++ X) a := ⟨H.size, fun k e hm => by
  rcases List.mem_append.1 hm with hm | hm
  · exact deE_holds h (fun k e hk => H.all k e (List.mem_append_left _ hk)) k e hm
  · exact H.all k e (List.mem_append_right _ hm)⟩

theorem least {J : Nat → Prop} (h : ∃ m, J m) : ∃ m, J m ∧ ∀ k, J k → m ≤ k := by
  obtain ⟨m, hm⟩ := h
  induction m using Nat.strongRecOn with
  | _ m ih =>
    by_cases hx : ∃ k, k < m ∧ J k
    · obtain ⟨k, hk, hJ⟩ := hx; exact ih k hk hJ
    · exact ⟨m, hm, fun k hk => by
        rcases Nat.lt_or_ge k m with h | h
        · exact absurd ⟨k, h, hk⟩ hx
        · exact h⟩
/-! ### A scope; a range over a function -/
theorem stepR_scope {c : Code} {b : Frame} {k : List Item} {cs : List Frame} {w : World} : step P (lone (b.atR a (.code (.scope c) :: k)) cs w) = .next (lone (b.atR a (.code c :: .inScope c :: k)) cs w) :=
  step_lone_go (by simp [stepG, stepG.exec, Frame.atR])
theorem stepR_inScope {c : Code} {b : Frame} {k : List Item} {cs : List Frame} {w : World} : step P (lone (b.atR a (.inScope c :: k)) cs w) = .next (lone (b.atR a k) cs w) :=
  step_lone_go (by simp [stepG, stepG.exec, Frame.atR])
theorem wpIn_scope {F : Fence} {c : Code} {Q : Exit → Act → World → Prop} {w : World} (hg : ∀ l a w, ¬ Q (.goto l) a w) (h : c.wpIn F n P Q a w) : (Code.scope c).wpIn F n P Q a w := by
  intro b k cs hro hb hr
  have h0 : (lone (b.atR a (.code (.scope c) :: k)) cs w).fenced P F := fenced_calm hb hr rfl
  obtain ⟨e, a₁, w₁, hq, harr⟩ := h b (.inScope c :: k) cs hro hb hr
  cases e with
  | normal => exact ⟨.normal, a₁, w₁, hq, .head h0 stepR_scope (StepsIn.trans harr (.one (fenced_calm hb hr rfl) stepR_inScope))⟩
  | exit id =>
    have hx : exitTo id (.inScope c :: k) = exitTo id k := by simp [exitTo]
    exact ⟨.exit id, a₁, w₁, hq, fun k' hk => .head h0 stepR_scope (harr.1 k' (by rw [hx]; exact hk)),
      fun hr' hk => let ⟨k₁, h1, h2⟩ := harr.2 hr' (by rw [hx]; exact hk); ⟨k₁, h1, .head h0 stepR_scope h2⟩⟩
  | goto l => exact absurd hq (hg l a₁ w₁)
  | ret => exact ⟨_, a₁, w₁, hq, .of_steps (.one h0 stepR_scope) harr⟩
  | panic ch => exact ⟨_, a₁, w₁, hq, .of_steps (.one h0 stepR_scope) harr⟩
  | outgrown => exact ⟨_, a₁, w₁, hq, .of_steps (.one h0 stepR_scope) harr⟩
theorem memE_iff {k : Nat} : ∀ {l : List Nat}, memE k l = true ↔ k ∈ l
  | [] => by simp [memE]
  | x :: r => by
    simp only [memE, List.mem_cons]
    cases hb : Nat.beq k x with
    | true => simp [Nat.eq_of_beq_eq_true hb]
    | false =>
      have : k ≠ x := fun e => by rw [e, Nat.beq_refl] at hb; cases hb
      simp [memE_iff, this]
theorem dropE_mem {ks : List Nat} {p : Nat × EV} : ∀ {ρ : Env}, p ∈ dropE ks ρ → p ∈ ρ ∧ p.1 ∉ ks ∧ isD p.2 = false
  | [], h => by cases h
  | q :: r, h => by
    unfold dropE at h
    split at h
    · rename_i h1 h2
      rcases List.mem_cons.1 h with rfl | h
      · exact ⟨List.mem_cons_self, fun hm => (by rw [memE_iff.2 hm] at h1; cases h1), h2⟩
      · exact ⟨List.mem_cons_of_mem _ (dropE_mem h).1, (dropE_mem h).2⟩
    · exact ⟨List.mem_cons_of_mem _ (dropE_mem h).1, (dropE_mem h).2⟩
theorem noD_mem {p : Nat × EV} : ∀ {ρ : Env}, noD ρ = true → p ∈ ρ → isD p.2 = false
  | [], _, h => by cases h
  | q :: r, hn, h => by
    unfold noD at hn
    cases hb : isD q.2 with
    | true => rw [hb] at hn; cases hn
    | false =>
      rw [hb] at hn
      rcases List.mem_cons.1 h with rfl | h
      · exact hb
      · exact noD_mem hn h
theorem holds_tmps {k : Nat} {e : EV} {a a' : Act} (hd : isD e = false) (h : Holds k a e) (ht : a'.tmps[k]? = a.tmps[k]?) : Holds k a' e := by
  cases e with
  | d ds => cases hd
  | _ => exact ht.trans h
theorem nodupN_sound : ∀ {l : List Nat}, nodupN l = true → l.Nodup
  | [], _ => List.nodup_nil
  | x :: r, h => by
    unfold nodupN at h
    cases hb : memE x r with
    | true => rw [hb] at h; cases h
    | false =>
      rw [hb] at h
      exact List.nodup_cons.2 ⟨fun hm => (by rw [memE_iff.2 hm] at hb; cases hb), nodupN_sound h⟩
theorem ltN_sound {N : Nat} : ∀ {l : List Nat}, ltN N l = true → ∀ x ∈ l, x < N
  | [], _, x, hx => by cases hx
  | y :: r, h, x, hx => by
    unfold ltN at h
    cases hb : Nat.ble (y + 1) N with
    | false => rw [hb] at h; cases h
    | true =>
      rw [hb] at h
      rcases List.mem_cons.1 hx with rfl | hx
      · exact Nat.le_of_ble_eq_true hb
      · exact ltN_sound h x hx
theorem keysB_sound : ∀ {ls : List (Nat × Lv)} {ps : List Nat}, keysB ls ps = true → ps = ls.map (·.1) ∧ ∀ l ∈ ls, ∃ s, l.2 = .sh s
  | [], [], _ => ⟨rfl, fun l hl => by cases hl⟩
  | [], _ :: _, h => by cases h
  | (k, .sh s) :: r, [], h => by cases h
  | (k, .ds) :: r, [], h => by cases h
  | (k, .ds) :: r, _ :: _, h => by cases h
  | (k, .sh s) :: r, x :: q, h => by
    unfold keysB at h
    cases hb : Nat.beq k x with
    | false => rw [hb] at h; cases h
    | true =>
      rw [hb] at h
      obtain ⟨h1, h2⟩ := keysB_sound h
      refine ⟨by simp [h1, Nat.eq_of_beq_eq_true hb], fun l hl => ?_⟩
      rcases List.mem_cons.1 hl with rfl | hl
      · exact ⟨s, rfl⟩
      · exact h2 l hl
theorem length_valsOf : ∀ (ls : List (Nat × Lv)) (t : VT ls), (valsOf ls t).length = ls.length
  | [], _ => rfl
  | l :: r, t => by simp [valsOf, length_valsOf r]
/-- Yield's arguments, laid into a round's temporaries. -/
theorem lay_out : ∀ (ls : List (Nat × Lv)) (t : VT ls) (tmps : Array Value) (k : Nat), k ∉ ls.map (·.1) →
    (((ls.map (·.1)).zip (valsOf ls t)).foldl (fun tmps (p : Nat × Value) => tmps.setIfInBounds p.1 p.2) tmps)[k]? = tmps[k]?
  | [], _, _, _, _ => rfl
  | l :: r, t, tmps, k, hk => by
    simp only [List.map_cons, valsOf, List.zip_cons_cons, List.foldl_cons]
    simp only [List.map_cons, List.mem_cons, not_or] at hk
    rw [lay_out r t.2 _ k hk.2, Array.getElem?_setIfInBounds_ne (Ne.symm hk.1)]
theorem lay_in : ∀ (ls : List (Nat × Lv)) (t : VT ls) (tmps : Array Value), (ls.map (·.1)).Nodup → (∀ x ∈ ls.map (·.1), x < tmps.size) → ∀ k e, (k, e) ∈ envOf ls t →
    (((ls.map (·.1)).zip (valsOf ls t)).foldl (fun tmps (p : Nat × Value) => tmps.setIfInBounds p.1 p.2) tmps)[k]? = some e.val
  | [], _, _, _, _, k, e, hm => by cases hm
  | l :: r, t, tmps, hn, hlt, k, e, hm => by
    simp only [List.map_cons, valsOf, List.zip_cons_cons, List.foldl_cons]
    rw [List.map_cons, List.nodup_cons] at hn
    rcases List.mem_cons.1 hm with hm | hm
    · injection hm with h1 h2
      subst h1 h2
      rw [lay_out r t.2 _ l.1 hn.1, Array.getElem?_setIfInBounds_self_of_lt (hlt l.1 (by simp))]
    · exact lay_in r t.2 _ hn.2 (fun x hx => by rw [Array.size_setIfInBounds]; exact hlt x (by simp [hx])) k e hm
theorem size_lay (l : List (Nat × Value)) : ∀ (tmps : Array Value), (l.foldl (fun tmps (p : Nat × Value) => tmps.setIfInBounds p.1 p.2) tmps).size = tmps.size := by
  induction l with
  | nil => intro tmps; rfl
  | cons p r ih => intro tmps; rw [List.foldl_cons, ih, Array.size_setIfInBounds]
theorem envOf_keys : ∀ (ls : List (Nat × Lv)) (t : VT ls) (k : Nat) (e : EV), (k, e) ∈ envOf ls t → ∃ l ∈ ls, k = l.1 ∧ ∃ x : l.2.T, e = l.2.ev x
  | [], _, k, e, h => by cases h
  | l :: r, t, k, e, h => by
    rcases List.mem_cons.1 h with h | h
    · injection h with h1 h2
      exact ⟨l, List.mem_cons_self, h1, _, h2⟩
    · obtain ⟨l', hl, h1, h2⟩ := envOf_keys r t.2 k e h
      exact ⟨l', List.mem_cons_of_mem _ hl, h1, h2⟩
theorem lookW_sound {f : Nat → WP} {i : Nat} {w : World} : ∀ {ks : List Nat}, lookW i (exsOf ks f) w → f i w
  | [], h => h.elim
  | k :: r, h => by
    simp only [exsOf, lookW] at h
    cases hb : Nat.beq i k with
    | true => rw [hb] at h; rw [Nat.eq_of_beq_eq_true hb]; exact h
    | false => rw [hb] at h; exact lookW_sound h
theorem run_setO {l : Nat} {r : Loop} {o : Obj} {w : World} (h : w.heap[l]? = some (.loop r)) : (setObj l o).run P w = .ok () (setO w l o) := by
  simp [setObj, Sem.run, h, setO]
/-- Yield's arguments as the model lays them. -/
theorem run_yield' {l : Nat} {r : Loop} {args : List Value} {w : World} (h : w.heap[l]? = some (.loop r)) (hn : args.length = r.params.size) :
    (Instr.yield l args.toArray).run P w = .ok (.round l r.fn ((r.params.toList.zip args).foldl (fun tmps (p : Nat × Value) => tmps.setIfInBounds p.1 p.2) r.tmps) r.assign r.body) w := by
  have e : ((r.params.zip args.toArray).foldl (fun tmps (p : Nat × Value) => tmps.setIfInBounds p.1 p.2) r.tmps) = (r.params.toList.zip args).foldl (fun tmps (p : Nat × Value) => tmps.setIfInBounds p.1 p.2) r.tmps := by
    rw [← Array.foldl_toList, Array.toList_zip]
  unfold Instr.yield Instr.getLoop
  simp only [bind_assoc]
  rw [Sem.run_bind, run_getObj_loop h]
  simp only [Result.andThen_ok]
  simp only [pure_bind]
  have hs : ¬ (args.toArray.size ≠ r.params.size) := by simp [hn]
  rw [if_neg hs]
  show Result.ok _ _ = _
  congr 2
theorem splitE_holds {e : EV} {k : EV → WP} {w : World} (h : splitE true e k w) : ∃ e', k e' w ∧ ∀ j a, Holds j a e → Holds j a e' := by
  cases e with
  | v x =>
    cases x with
    | bool b =>
      cases b
      · exact ⟨.f, h.2 rfl, fun _ _ hh => hh⟩
      · exact ⟨.t, h.1 rfl, fun _ _ hh => hh⟩
    | _ => exact ⟨_, h, fun _ _ hh => hh⟩
  | _ => exact ⟨_, h, fun _ _ hh => hh⟩
theorem splitV_sound {w : World} : ∀ {ρ1 : Env} {k : Env → WP}, splitV ρ1 k w → ∃ ρ2, k ρ2 w ∧ ∀ (X : Env) (a : Act), Agree N (ρ1 ++ X) a → Agree N (ρ2 ++ X) a
  | [], k, h => ⟨[], h, fun _ _ H => H⟩
  | p :: r, k, h => by
    obtain ⟨e, h, hv⟩ := splitE_holds h
    obtain ⟨ρ2, h, hA⟩ := splitV_sound h
    refine ⟨_, h, fun X a H => ?_⟩
    have H2 := hA X a ⟨H.size, fun k e hm => H.all k e (List.mem_cons_of_mem _ hm)⟩
    refine ⟨H2.size, fun k e' hm => ?_⟩
    rcases List.mem_cons.1 hm with h1 | h1
    · injection h1 with h1 h2
      subst h1 h2
      exact hv _ _ (H.all p.1 p.2 List.mem_cons_self)
    · exact H2.all k e' h1
theorem full_bit (n j : Nat) : (Nat.sub (Nat.pow 2 n) 1).testBit j = decide (j < n) := Nat.testBit_two_pow_sub_one n j
theorem drawC_sound {Q : Exit → Act → World → Prop} (hsel : Region.noSelect A = true) (hQ : ∀ c a w, Q (.panic c) a w → False) (hL : LetsOut Q → False) {ts : List Tab} (hT : tabsB A A.toList 0 ts = true) (hP : allPairs ts = true) (hD : allDesc ts ts = true) {k : Env → WP} (hk : ∀ ρ a w, Agree N (ρ ++ fz) a → k ρ w → Q .normal a w) :
    ∀ (l : List Part) (m : Nat) (pre ρ : Env) (a : Act) (w : World) (q : Nat) (listed : Array Bool), drawC P N A.toList ts (Nat.sub (Nat.pow 2 A.toList.length) 1) fz l m pre ρ k w → Agree N ((pre ++ ρ) ++ fz) a → RelM A m listed → unl A listed ≤ q → wpAnyC ro n P A Q (CH []) q listed a w
  | [], m, pre, ρ, a, w, q, listed, h, HA, hR, hq => by
    obtain ⟨pre', h, hA⟩ := splitV_sound h
    rw [List.append_assoc] at HA
    refine drawM_sound hsel hQ hL hT hP hD (rng := 0) ?_ ?_ _ _ _ _ _ _ q listed h (agree_assoc (hA _ _ HA)) hR hq
    · intro j hj hb
      rw [full_bit, Array.length_toList] at hb
      exact absurd hj (of_decide_eq_false hb)
    · intro ρ' a' w' q' listed' HA' h' hR' hq'
      have hr : Region.ready .any A listed' = [] := by
        refine List.eq_nil_iff_forall_not_mem.2 fun i hi => ?_
        obtain ⟨hun, o, ho, _⟩ := mem_ready.1 hi
        have := (hR'.getT hun)
        rw [full_bit, Array.length_toList] at this
        exact absurd this.1 (of_decide_eq_false this.2)
      have hq2 := hk _ _ _ HA' h'
      cases q' with
      | zero => exact ⟨hr, hq2⟩
      | succ q' => exact ⟨fun _ => hq2, by rw [hr]; simp⟩
  | c :: cs, m, pre, ρ, a, w, q, listed, h, HA, hR, hq => by
    have h1 := h (fun t => drawC P N A.toList ts (Nat.sub (Nat.pow 2 A.toList.length) 1) fz cs c.st (envOf c.live t) (keepE (pre ++ ρ) c.keep) k) (fun _ _ h => h)
    obtain ⟨pre', h1, hA⟩ := splitV_sound h1
    have HA1 := agree_keep HA c.keep
    rw [List.append_assoc] at HA1
    refine drawM_sound (fz := keepE (pre ++ ρ) c.keep ++ fz) hsel hQ hL hT hP hD (rng := Nat.xor (Nat.sub (Nat.pow 2 A.toList.length) 1) c.st) ?_ ?_ _ _ _ _ _ _ q listed h1 (agree_assoc (hA _ _ HA1)) hR hq
    · intro j hj hb
      have e : (Nat.xor (Nat.sub (Nat.pow 2 A.toList.length) 1) c.st).testBit j = ((Nat.sub (Nat.pow 2 A.toList.length) 1).testBit j ^^ c.st.testBit j) := Nat.testBit_xor _ _ j
      rw [e, full_bit, Array.length_toList, hb, decide_eq_true hj]
      rfl
    · intro ρ' a' w' q' listed' HA' h' hR' hq'
      simp only at h'
      cases hd : deE c.live ρ' with
      | none => rw [hd] at h'; exact h'.elim
      | some t =>
        rw [hd] at h'
        exact drawC_sound hsel hQ hL hT hP hD hk cs _ _ _ _ _ q' listed' h' (agree_assoc (agree_env HA' hd)) hR' hq'
theorem comp_sound (hm : P.follows .mixedOrders = true) : ∀ (c : Code) (ro : Option Nat) (n : Nat), (ro = none ∨ flat c = true) → ∀ (an : Ann) (fz ρ : Env) (K : Kn) (a : Act) (w : World), comp P N c an fz ρ K w → Agree N (ρ ++ fz) a → c.wpIn (Fr ro) n P (KQ N fz K) a w := by
  intro c
  induction c with
  | skip => intro ro n hro an fz ρ K a w h H; exact wpIn_skip ⟨ρ, H, h⟩
  | label l => intro ro n hro an fz ρ K a w h H; exact wpIn_label ⟨ρ, H, h⟩
  | exit i => intro ro n hro an fz ρ K a w h H; exact wpIn_exit ⟨ρ, H, h⟩
  | ret => intro ro n hro an fz ρ K a w h H; exact wpIn_ret ⟨ρ, H, h⟩
  | goto l => intro ro n hro an fz ρ K a w h H; exact h.elim
  | scope c ih => intro ro n hro an fz ρ K a w h H; exact wpIn_scope (fun _ _ _ h => h) (ih ro n hro an fz ρ K a w h H)
  | refuse s => intro ro n hro an fz ρ K a w h H; exact h.elim
  | rangeFunc f ps x y ihx ihy =>
    intro ro n hro an fz ρ K a w h H
    obtain rfl : ro = none := hro.resolve_right (by simp [flat])
    obtain ⟨W, hW, h⟩ : ∃ W, W = comp P N (.rangeFunc f ps x y) an fz ρ K ∧ W w := ⟨_, rfl, h⟩
    cases an <;> simp only [comp] at hW <;> try (subst hW; exact h.elim)
    rename_i live keep an1
    split at hW <;> try (subst hW; exact h.elim)
    rename_i e ds he hds
    split at hW <;> subst hW <;> try (exact h.elim)
    rename_i hkeys hnd hlt hfx hfy hfz
    obtain ⟨g, cap, hv, hen, hcall⟩ := h
    obtain ⟨hps, hsh⟩ := keysB_sound hkeys
    have hdef : a.defers = ds := H.all _ _ (List.mem_append_left _ (get_mem hds))
    have hnd' := List.nodup_cons.1 (nodupN_sound hnd)
    have hafter : Agree N (((DS, .d (⟨.collected w.heap.size, #[]⟩ :: ds)) :: dropE [DS] ρ) ++ fz) { a with defers := [⟨.collected w.heap.size, #[]⟩] ++ a.defers } := ⟨H.size, fun k e hm => by
      rw [List.cons_append] at hm
      rcases List.mem_cons.1 hm with hm | hm
      · injection hm with h1 h2
        subst h2
        show _ = _
        rw [hdef]
        rfl
      · rcases List.mem_append.1 hm with hm | hm
        · obtain ⟨h1, _, h3⟩ := dropE_mem hm
          exact holds_tmps h3 (H.all k e (List.mem_append_left _ h1)) rfl
        · exact holds_tmps (noD_mem hfz hm) (H.all k e (List.mem_append_right _ hm)) rfl⟩
    refine wpIn_rangeFunc (fun fn hfn => ?_)
    have hrun := run_enterLoop_outer (P := P) (w := w) fn a.tmps ps x y
    obtain ⟨W1, hW1⟩ : ∃ W1, W1 = ((w.alloc (.deferred (some []))).alloc (.loop { state := .ready, pending := none, fn := fn, tmps := a.tmps, params := ps, assign := x, body := y, defers := w.heap.size })) := ⟨_, rfl⟩
    rw [← hW1] at hrun
    refine ⟨w.heap.size + 1, [⟨.collected w.heap.size, #[]⟩], W1, ⟨.fn (.func g) cap, #[.func (.yield (w.heap.size + 1)) #[] #[]]⟩, W1, g, (.func (.yield (w.heap.size + 1)) #[] #[] :: cap.toList).toArray, W1, hrun, ?_, fun _ _ => trivial, ?_, (fun h => by cases h), ?_⟩
    · have hf : a.eval f = .func (.func g) #[] cap := (ev_eval he H).trans hv
      have hc : a.eval (.const (.func (.yield (w.heap.size + 1)) #[] #[])) = .func (.yield (w.heap.size + 1)) #[] #[] := rfl
      simp [resolve, hf, hc, Deferred.ofValue]
    · have earr : (#[.func (.yield (w.heap.size + 1)) #[] #[]] ++ cap : Array Value) = (.func (.yield (w.heap.size + 1)) #[] #[] :: cap.toList).toArray := by
        apply Array.toList_inj.1
        simp
      rw [← earr]
      exact enterable_run hen _ _
    · subst hW1
      refine callsIn_wide.2 (Calls.mono (hcall (fun s p => .loop { state := s, pending := p, fn := fn, tmps := a.tmps, params := ps, assign := x, body := y, defers := w.heap.size }) ?_) ?_)
      · intro t w' R hrec hB
        refine ⟨fn, _, x, y, run_yield' hrec (by rw [length_valsOf, ← Array.length_toList, hps, List.length_map]), ?_⟩
        refine roundIn_of_wpIn (F := Fence.wide) trivial ?_
        show Code.wpIn (Fr (some (w.heap.size + 1))) 0 P x _ _ _
        have HA : Agree N (((DS, .d []) :: (envOf live t ++ dropE (DS :: ps.toList) (ρ ++ fz))) ++ []) { tmps := (ps.toList.zip (valsOf live t)).foldl (fun tmps (p : Nat × Value) => tmps.setIfInBounds p.1 p.2) a.tmps, defers := [] } := by
          refine ⟨by rw [size_lay]; exact H.size, fun k e hm => ?_⟩
          rw [List.append_nil] at hm
          rcases List.mem_cons.1 hm with hm | hm
          · injection hm with h1 h2
            subst h2
            rfl
          · rcases List.mem_append.1 hm with hm | hm
            · obtain ⟨l, hl, rfl, z, rfl⟩ := envOf_keys _ _ _ _ hm
              have hz : isD (l.2.ev z) = false := by
                obtain ⟨s, hs⟩ := hsh l hl
                obtain ⟨k, lv⟩ := l
                simp only at hs z
                subst hs
                rfl
              have hin := lay_in live t a.tmps (by rw [← hps]; exact hnd'.2) (fun x hx => by rw [H.size]; exact ltN_sound hlt x (by rw [hps]; exact hx)) _ _ hm
              rw [← hps] at hin
              generalize l.2.ev z = e at hz hin
              cases e with
              | d ds => cases hz
              | _ => exact hin
            · obtain ⟨h1, h2, h3⟩ := dropE_mem hm
              refine holds_tmps h3 (H.all k e h1) ?_
              simp only [List.mem_cons, not_or] at h2
              have := lay_out live t a.tmps k (by rw [← hps]; exact h2.2)
              rw [← hps] at this
              exact this
        refine wpIn_mono (ihx (some (w.heap.size + 1)) 0 (.inr hfx) _ _ _ _ _ _ hB HA) ?_
        rintro e1 a1 w1 he1
        cases e1 with
        | normal =>
          obtain ⟨ρ1, H1, h1⟩ := he1
          obtain ⟨hr1, h1⟩ := h1
          refine ⟨_, run_beginRound hr1 rfl, ?_⟩
          refine wpIn_mono (ihy (some (w.heap.size + 1)) 0 (.inr hfy) _ _ _ _ _ _ h1 H1) ?_
          rintro e2 a2 w2 he2
          cases e2 with
          | normal => obtain ⟨ρ2, H2, hr2, h2⟩ := he2; exact ⟨_, _, run_endRound none hr2, true, rfl, h2⟩
          | ret => obtain ⟨ρ2, H2, hr2, h2⟩ := he2; exact ⟨_, _, run_endRound (some .ret) hr2, false, rfl, h2⟩
          | exit i => obtain ⟨ρ2, H2, hr2, h2⟩ := he2; exact ⟨_, _, run_endRound (some (.exit i)) hr2, false, rfl, h2⟩
          | goto l => exact he2.elim
          | panic c => exact he2.elim
          | outgrown => exact he2.elim
        | exit i => obtain ⟨ρ1, H1, h1⟩ := he1; exact h1.elim
        | ret => obtain ⟨ρ1, H1, h1⟩ := he1; exact h1.elim
        | goto l => exact he1.elim
        | panic c => exact he1.elim
        | outgrown => exact he1.elim
      · rintro (v | c | _) w3 he3
        · obtain ⟨s, p, hs, hr3, h3⟩ := he3
          refine ⟨p, _, run_endLoop hr3 hs, ?_⟩
          cases p with
          | none => exact ⟨_, hafter, h3⟩
          | some c =>
            cases c <;> try (exact h3.elim)
            · exact wpIn_exit ⟨_, hafter, lookW_sound h3⟩
            · exact wpIn_ret ⟨_, hafter, h3⟩
        · exact he3.elim
        · exact he3.elim
  | region id A draw =>
    intro ro n hro an fz ρ K a w h H
    cases draw with
    | false =>
      simp only [comp] at h
      refine wpIn_region ?_
      rw [List.range_eq_range', ← Array.length_toList]
      exact seqOps_sound A.toList 0 ρ a w K.next rfl h H (fun ρ a w H h => ⟨ρ, H, h⟩)
    | true =>
      simp only [comp] at h
      cases hs : Region.noSelect A with
      | false => rw [hs] at h; exact h.elim
      | true =>
        rw [hs] at h
        have hun : unl A (Array.replicate A.size false) ≤ A.size := by
          unfold unl
          exact Nat.le_trans (List.length_filter_le _ _) (by simp)
        have plain : drawOps P N A A.toList fz (A.toList.length + 1) (Array.replicate A.size false) [] ρ K.next w.drew → wpAnyC ro n P A (KQ N fz K) (CH []) A.size (Array.replicate A.size false) a w.drew := fun hd =>
          drawOps_sound (ro := ro) (n := n) (Q := KQ N fz K) (fz := fz) (k := K.next) hs (fun c a w => KQ_panic c a w) KQ_outs (fun ρ a w H h => ⟨ρ, H, h⟩) _ _ _ _ _ _ A.size hd H hun
        cases an with
        | cuts ts l =>
          simp only at h
          cases h1 : tabsB A A.toList 0 ts with
          | false => rw [h1] at h; exact h.elim
          | true =>
          rw [h1] at h
          simp only at h
          cases h2 : allPairs ts with
          | false => rw [h2] at h; exact h.elim
          | true =>
          rw [h2] at h
          simp only at h
          cases h3 : allDesc ts ts with
          | false => rw [h3] at h; exact h.elim
          | true =>
          rw [h3] at h
          refine wpIn_region_any hm (wpAny_of_C (C := CHM A []) _ _ _ _ ?_)
          exact drawC_sound hs (fun c a w => KQ_panic c a w) KQ_outs h1 h2 h3 (fun ρ a w H h => ⟨ρ, H, h⟩) l _ _ _ _ _ _ _ h H (RelM.none A) hun
        | _ => exact wpIn_region_any hm (wpAny_of_C (C := CH []) _ _ _ _ (plain h))
  | seq x y ihx ihy =>
    intro ro n hro an fz ρ K a w h H
    have hx : ro = none ∨ flat x = true := hro.imp id (fun h => by simp only [flat] at h; cases hf : flat x with
      | true => rfl
      | false => rw [hf] at h; cases h)
    have hy : ro = none ∨ flat y = true := hro.imp id (fun h => by simp only [flat] at h; cases hf : flat x with
      | true => rw [hf] at h; exact h
      | false => rw [hf] at h; cases h)
    refine wpIn_seq ?_
    have plain : comp P N x an.fst fz ρ { K with next := fun ρ' => comp P N y an.snd fz ρ' K } w → x.wpIn (Fr ro) n P (Exit.then (y.wpIn (Fr ro) n P (KQ N fz K)) (KQ N fz K)) a w := by
      intro h
      refine wpIn_mono (ihx ro n hx _ _ _ _ _ _ h H) ?_
      rintro e a' w' he
      cases e with
      | normal => obtain ⟨ρ', H', h'⟩ := he; exact ihy ro n hy _ _ _ _ _ _ h' H'
      | exit i => exact he
      | ret => exact he
      | goto l => exact he.elim
      | panic c => exact he.elim
      | outgrown => exact he.elim
    cases an with
    | join live keep an1 an2 =>
      simp only [comp] at h
      have h1 := h (fun t => comp P N y an2 fz (envOf live t ++ keepE ρ keep) K) (fun _ _ h => h)
      refine wpIn_mono (ihx ro n hx _ _ _ _ _ _ h1 (agree_keep H keep)) ?_
      rintro e a' w' he
      cases e with
      | normal =>
        obtain ⟨ρ', H', h'⟩ := he
        simp only at h'
        cases hd : deE live ρ' with
        | none => rw [hd] at h'; exact h'.elim
        | some t =>
          rw [hd] at h'
          exact ihy ro n hy _ _ _ _ _ _ h' (agree_assoc (agree_env H' hd))
      | exit i => obtain ⟨ρ', H', h'⟩ := he; exact ⟨_, agree_assoc H', h'⟩
      | ret => obtain ⟨ρ', H', h'⟩ := he; exact ⟨_, agree_assoc H', h'⟩
      | goto l => exact he.elim
      | panic c => exact he.elim
      | outgrown => exact he.elim
    | _ => exact plain h
  | cond c x y ihx ihy =>
    intro ro n hro an fz ρ K a w h H
    have hx : ro = none ∨ flat x = true := hro.imp id (fun h => by simp only [flat] at h; cases hf : flat x with
      | true => rfl
      | false => rw [hf] at h; cases h)
    have hy : ro = none ∨ flat y = true := hro.imp id (fun h => by simp only [flat] at h; cases hf : flat x with
      | true => rw [hf] at h; exact h
      | false => rw [hf] at h; cases h)
    simp only [comp] at h
    obtain ⟨W, hW, h⟩ : ∃ W, W = (match ev (ρ ++ fz) c with
      | some .t => comp P N x an.fst fz ρ K
      | some .f => comp P N y an.snd fz ρ K
      | some (.v (.bool b)) => splitW b (comp P N x an.fst fz ρ K) (comp P N y an.snd fz ρ K)
      | _ => FalseW) ∧ W w := ⟨_, rfl, h⟩
    split at hW <;> subst hW
    · rename_i he; exact wpIn_cond_true (ev_eval he H) (ihx ro n hx _ _ _ _ _ _ h H)
    · rename_i he; exact wpIn_cond_false (ev_eval he H) (ihy ro n hy _ _ _ _ _ _ h H)
    · rename_i b he
      exact wpIn_cond_split (ev_eval he H) (fun hb => ihx ro n hx _ _ _ _ _ _ (h.1 hb) H) (fun hb => ihy ro n hy _ _ _ _ _ _ (h.2 hb) H)
    · exact h.elim
  | block i x ih =>
    intro ro n hro an fz ρ K a w h H
    refine wpIn_block (wpIn_mono (ih ro n hro _ _ _ _ _ _ h H) ?_)
    rintro e a' w' he
    cases e with
    | exit j =>
      obtain ⟨ρ', H', h'⟩ := he
      simp only at h'
      simp only [Exit.inBlock]
      cases hb : Nat.beq j i with
      | true =>
        rw [hb] at h'
        rw [if_pos (Nat.eq_of_beq_eq_true hb)]
        exact ⟨ρ', H', h'⟩
      | false =>
        rw [hb] at h'
        rw [if_neg (fun e => by rw [e, Nat.beq_refl] at hb; cases hb)]
        exact ⟨ρ', H', h'⟩
    | normal => exact he
    | ret => exact he
    | goto l => exact he.elim
    | panic c => exact he.elim
    | outgrown => exact he.elim
  | loop x ih =>
    intro ro n hro an fz ρ K a w h H
    cases an with
    | loop live keep an1 =>
      simp only [comp] at h
      cases hd : deE live ρ with
      | none => rw [hd] at h; exact h.elim
      | some t0 =>
        rw [hd] at h
        obtain ⟨I, μ, h0, hround⟩ := h
        classical
        let J : Act → World → Nat → Prop := fun a w m => ∃ t, I t w ∧ Agree N (envOf live t ++ (keepE ρ keep ++ fz)) a ∧ μ t w = m
        let I' : Act → World → Prop := fun a w => ∃ m, J a w m
        let μ' : Act → World → Nat := fun a w => if hx : ∃ m, J a w m then Classical.choose (least hx) else 0
        refine wpIn_loop I' μ' ⟨_, t0, h0, agree_env (agree_keep H keep) hd, rfl⟩ ?_
        rintro a w hI
        have hμ : μ' a w = Classical.choose (least hI) := dif_pos hI
        obtain ⟨t, ht, HA, hm'⟩ := (Classical.choose_spec (least hI)).1
        refine wpIn_mono (ih ro n hro _ _ _ _ _ _ (hround t w ht) HA) ?_
        rintro e a' w' he
        cases e with
        | normal =>
          obtain ⟨ρ', H', h'⟩ := he
          simp only at h'
          cases hd' : deE live ρ' with
          | none => rw [hd'] at h'; exact h'.elim
          | some t' =>
            rw [hd'] at h'
            have hJ : J a' w' (μ t' w') := ⟨t', h'.1, agree_env H' hd', rfl⟩
            refine ⟨⟨_, hJ⟩, ?_⟩
            have hμ' : μ' a' w' = Classical.choose (least ⟨_, hJ⟩) := dif_pos ⟨_, hJ⟩
            have := (Classical.choose_spec (least ⟨_, hJ⟩)).2 _ hJ
            rw [hμ, hμ', ← hm']
            exact Nat.lt_of_le_of_lt this h'.2
        | exit i => obtain ⟨ρ', H', h'⟩ := he; exact ⟨_, agree_assoc H', h'⟩
        | ret => obtain ⟨ρ', H', h'⟩ := he; exact ⟨_, agree_assoc H', h'⟩
        | goto l => exact he.elim
        | panic c => exact he.elim
        | outgrown => exact he.elim
    | _ => exact h.elim

/-! ### A function -/
theorem leaveW_sound {fn : Func} {tmps : Array Value} {R : Ending → World → Prop} {n : Nat} : ∀ (ds : List Deferred) (K : WP) (w : World), leaveW P ds K w → (∀ w, K w → LeavesInM Fence.wide n P fn tmps R [] .returning w) → LeavesInM Fence.wide n P fn tmps R ds .returning w
  | [], K, w, h, hk => hk w h
  | d :: ds, K, w, h, hk => by
    obtain ⟨r, w', h1, h2, h3⟩ := h
    exact ⟨by simp, .inl ⟨r, w', h1, h2, leaveW_sound ds K w' h3 hk⟩⟩
theorem retVs_sound {w : World} (H : Agree N ρ a) : ∀ (rs : List ResultVar) (K : List Value → WP), retVs P ρ rs K w →
    ∃ vs, (rs.mapM fun | .tmp t => pure (a.tmps.getD t undef) | .cell c t => do loadVar t (← asAddr (a.tmps.getD c undef)) : Sem (List Value)).run P w = .ok vs w ∧ K vs w
  | [], K, h => ⟨[], rfl, h⟩
  | .tmp t :: r, K, h => by
    simp only [retVs] at h
    cases he : ev ρ (.tmp t) with
    | none => rw [he] at h; exact h.elim
    | some e =>
      rw [he] at h
      obtain ⟨vs, hr, hk⟩ := retVs_sound H r _ h
      have hv : a.tmps.getD t undef = e.val := ev_eval he H
      refine ⟨_, ?_, hk⟩
      simp only [List.mapM_cons, Sem.run_bind, hv]
      rw [Sem.run_pure]
      simp only [Result.andThen_ok, hr]
      rfl
  | .cell c t :: r, K, h => by
    simp only [retVs] at h
    have go : ∀ (ad : Addr) (v : Value) (K' : List Value → WP), ev ρ (.tmp c) = some (.v (.pointer (some ad))) → (loadVar t ad).run P w = .ok v w → retVs P ρ r (fun vs => K (v :: vs)) w →
        ∃ vs, ((ResultVar.cell c t :: r).mapM fun | .tmp t => pure (a.tmps.getD t undef) | .cell c t => do loadVar t (← asAddr (a.tmps.getD c undef)) : Sem (List Value)).run P w = .ok vs w ∧ K vs w := by
      intro ad v _ he hl h
      obtain ⟨vs, hr, hk⟩ := retVs_sound H r _ h
      have hv : a.tmps.getD c undef = .pointer (some ad) := ev_eval he H
      refine ⟨_, ?_, hk⟩
      simp only [List.mapM_cons, Sem.run_bind, hv]
      have : (asAddr (.pointer (some ad))).run P w = .ok ad w := rfl
      rw [this]
      simp only [Result.andThen_ok, hl, hr]
      rfl
    obtain ⟨W, hW, h⟩ : ∃ W, W = (match ev ρ (.tmp c), shOf P t with
      | some (.v (.pointer (some ad))), some (.one l) => ldW l ad fun x => retVs P ρ r fun vs => K (l.val x :: vs)
      | some (.v (.pointer (some ad))), some (.agg ls) => match sizeIs P t ls.length with
        | true => ldAW ls ad fun x => retVs P ρ r fun vs => K (.agg (LT.vals ls x).toArray :: vs)
        | false => FalseW
      | some (.v (.pointer (some ad))), some (.arr n) => match sizeIs P t n with
        | true => ldRW n ad fun cs => retVs P ρ r fun vs => K (.agg cs :: vs)
        | false => FalseW
      | _, _ => FalseW) ∧ W w := ⟨_, rfl, h⟩
    (repeat' split at hW) <;> subst hW <;> try (exact h.elim)
    · rename_i ad l he hs
      obtain ⟨x, hc, h⟩ := h
      exact go _ _ (fun _ => FalseW) he (run_loadVar_one hs hc) h
    · rename_i ad ls he hs _ hz
      obtain ⟨x, hc, h⟩ := h
      exact go _ _ (fun _ => FalseW) he (run_loadVar_agg hs (by simp) (by rw [LT.length_vals]; exact hz) hc) h
    · rename_i ad n he hs _ hz
      obtain ⟨cs, hn, hc, h⟩ := h
      have := run_loadVar_agg (P := P) hs (by simp) (by simpa [hn] using hz) hc
      exact go _ _ (fun _ => FalseW) he (by simpa using this) h
theorem results_sound {fn : Func} {w : World} {K : Value → WP} (H : Agree N ρ a) (h : retVs P ρ fn.results.toList (fun vs => K (oneOf vs)) w) : ∃ v, (results fn a.tmps).run P w = .ok v w ∧ K v w := by
  obtain ⟨vs, hr, hk⟩ := retVs_sound H _ _ h
  refine ⟨oneOf vs, ?_, hk⟩
  have e : results fn a.tmps = (do
      let l ← (fn.results.toList.mapM fun | .tmp t => pure (a.tmps.getD t undef) | .cell c t => do loadVar t (← asAddr (a.tmps.getD c undef)) : Sem (List Value))
      pure (if h : l.toArray.size = 1 then l.toArray[0] else .tuple l.toArray)) := by
    unfold results
    rw [Array.mapM_eq_mapM_toList]
    simp only [map_eq_pure_bind, bind_assoc, pure_bind]
    rfl
  rw [e, Sem.run_bind, hr]
  simp only [Result.andThen_ok, Sem.run_pure]
  congr 1
  match vs with
  | [] => rfl
  | [v] => rfl
  | v :: u :: r => simp [oneOf]
theorem args0_holds : ∀ (vs pre : List Value) (i : Nat) (l : Array Value), i = pre.length → (∀ j (h : j < (pre ++ vs).length), l[j]? = some ((pre ++ vs)[j])) →
    ∀ k e, (k, e) ∈ args0 i vs → ∃ v, e = .v v ∧ l[k]? = some v
  | [], _, _, _, _, _, k, e, h => by cases h
  | v :: r, pre, i, l, hi, hl, k, e, h => by
    rcases List.mem_cons.1 h with h | h
    · injection h with h1 h2
      subst h1 h2
      exact ⟨v, rfl, by have := hl k (by simp [hi]); rw [this]; simp [hi]⟩
    · exact args0_holds r (pre ++ [v]) (i + 1) l (by simp [hi]) (by simpa using hl) k e h

/-- A function's contract, from the condition that its body comes to. -/
theorem calls_of_bodyW (hm : P.follows .mixedOrders = true) {f : FuncId} {fn : Func} (hf : P.funcs[f]? = some fn) {an : Ann} {marks : Bool} {args : List Value} {w : World} {K : Value → WP}
    (hsz : args.length ≤ fn.ntmps) (h : bodyW P fn an marks args K w) : Calls P f args.toArray w fun | .returned v, w' => K v w' | _, _ => False := by
  unfold bodyW at h
  cases hb : fn.body with
  | none => rw [hb] at h; exact h.elim
  | some c =>
    rw [hb] at h
    refine (callsIn_wide (n := 0)).1 ?_
    refine callsIn_of_wp_marks hf hb trivial ?_
    have HA : Agree fn.ntmps (((DS, .d []) :: args0 0 args) ++ []) { tmps := args.toArray ++ Array.replicate (fn.ntmps - args.toArray.size) undef, defers := [] } := by
      refine ⟨by simp; omega, fun k e hk => ?_⟩
      rw [List.append_nil] at hk
      rcases List.mem_cons.1 hk with hk | hk
      · injection hk with h1 h2; subst h2; rfl
      · obtain ⟨v, rfl, hv⟩ := args0_holds args [] 0 (args.toArray ++ Array.replicate (fn.ntmps - args.toArray.size) undef) rfl (fun j hj => by
          simp only [List.nil_append] at hj ⊢
          rw [Array.getElem?_append_left (by simpa using hj)]
          simp) k e hk
        exact hv
    have hw := comp_sound hm c none 0 (.inl rfl) an [] _ _ _ w h HA
    refine wpIn_mono hw ?_
    have fin : ∀ (ρ : Env) (a : Act) (w : World), Agree fn.ntmps (ρ ++ []) a → retK P marks fn.results.toList K ρ w → LeavesInM Fence.wide 0 P fn a.tmps (fun | .returned v, w' => K v w' | _, _ => False) a.defers .returning w := by
      intro ρ a w HA h
      rw [List.append_nil] at HA
      have base : ∀ w, retVs P ρ fn.results.toList (fun vs => K (oneOf vs)) w → LeavesInM Fence.wide 0 P fn a.tmps (fun | .returned v, w' => K v w' | _, _ => False) [] .returning w := by
        intro w h
        obtain ⟨v, hr, hk⟩ := results_sound (fn := fn) HA h
        exact ⟨v, hr, hk⟩
      unfold retK at h
      cases hg : Env.get ρ DS with
      | none => rw [hg] at h; exact h.elim
      | some e =>
        rw [hg] at h
        have hd := HA.all _ _ (get_mem hg)
        cases e <;> try (exact h.elim)
        rename_i ds
        simp only [Holds] at hd
        rw [hd]
        cases marks with
        | true => exact leaveW_sound ds _ w h base
        | false =>
          cases ds with
          | nil => exact base w h
          | cons d r => exact h.elim
    rintro e a w' he
    cases e with
    | normal => obtain ⟨ρ', H', h'⟩ := he; exact fin _ _ _ H' h'
    | ret => obtain ⟨ρ', H', h'⟩ := he; exact fin _ _ _ H' h'
    | exit i => obtain ⟨ρ', H', h'⟩ := he; exact h'.elim
    | goto l => exact he.elim
    | panic c => exact he.elim
    | outgrown => exact he.elim
/-- It returns, and what it returns and leaves meets R. -/
def Ret (R : Value → World → Prop) : Ending → World → Prop
  | .returned v, w => R v w
  | _, _ => False
theorem Ret.mono {R R' : Value → World → Prop} (h : ∀ v w, R v w → R' v w) : ∀ e w, Ret R e w → Ret R' e w := by
  rintro (v | c | _) w he
  · exact h v w he
  · exact he
  · exact he
theorem callsR_of_bodyW (hm : P.follows .mixedOrders = true) {f : FuncId} {fn : Func} (hf : P.funcs[f]? = some fn) {an : Ann} {marks : Bool} {args : List Value} {w : World} {K : Value → WP}
    (hsz : args.length ≤ fn.ntmps) (h : bodyW P fn an marks args K w) : Calls P f args.toArray w (Ret K) :=
  (calls_of_bodyW hm hf hsz h).mono (by rintro (v | c | _) w he <;> exact he)
theorem callW_of {f : FuncId} {args : List Value} {r : Rs} {K : r.T → WP} {w : World} {R : Value → World → Prop} (h : Calls P f args.toArray w (Ret R)) (hk : ∀ v w', R v w' → ∃ x, v = r.val x ∧ K x w') : callW P f args r K w :=
  h.mono (by
    rintro (v | c | _) w he
    · exact hk v w he
    · exact he
    · exact he)
end
end Go.Proofs.YtlpniinmomhkcaaDoor.V
