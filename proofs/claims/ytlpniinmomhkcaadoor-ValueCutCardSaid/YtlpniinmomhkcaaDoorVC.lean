/- The generator's soundness, part 3: operations on memory; calls. -/
import Derived.Test.YtlpniinmomhkcaaDoorVB
set_option linter.unusedVariables false
set_option linter.unusedSimpArgs false
namespace Go.Proofs.YtlpniinmomhkcaaDoor.V
open Go
section
variable {N : Nat} {ρ fz : Env} {a : Act} {P : Program}

theorem cellsAt_iff {w : World} {ad : Addr} {vs : List Value} : ∀ {i : Nat}, (∀ p ∈ cellList ad i vs, w.cell? p.1 = some p.2) ↔ CellsAt w ad i vs := by
  induction vs with
  | nil => intro i; simp [cellList, CellsAt]
  | cons v r ih =>
    intro i
    simp only [cellList, CellsAt, ← ih, List.mem_cons]
    constructor
    · intro h; exact ⟨h _ (.inl rfl), fun p hp => h p (.inr hp)⟩
    · rintro ⟨h1, h2⟩ p (rfl | hp)
      · exact h1
      · exact h2 p hp
theorem run_loadCells {w : World} {ad : Addr} {vs : List Value} : ∀ {i : Nat} {acc : Array Value}, CellsAt w ad i vs → (loadCellsFrom ad i vs.length acc).run P w = .ok (acc ++ vs.toArray) w := by
  induction vs with
  | nil => intro i acc _; simp [loadCellsFrom]
  | cons v r ih =>
    intro i acc h
    simp only [List.length_cons, loadCellsFrom]
    rw [Sem.run_bind, run_load, h.1]
    simp only [Result.andThen_ok]
    rw [ih h.2]
    simp
theorem sizeIs_sound {t : TypeId} {n : Nat} (h : sizeIs P t n = true) (w : World) : (sizeOf t).run P w = .ok n w := by
  unfold sizeIs at h
  cases hz : szOf P t with
  | none => rw [hz] at h; cases h
  | some z =>
    rw [hz] at h
    obtain rfl : z = n := Nat.eq_of_beq_eq_true h
    exact run_sizeOf' hz w
theorem shOf_one {t : TypeId} {l : Lf} (h : shOf P t = some (.one l)) (w : World) : (isAgg t).run P w = .ok false w := by
  unfold shOf at h
  split at h
  · cases h
  · rename_i fs hf
    cases hl : leavesOf P 8 t <;> rw [hl] at h <;> cases h
  · rename_i hn1 hn2
    cases hu : P.underlying t with
    | none => simp [leavesOf, hu] at h
    | some d =>
      unfold isAgg
      rw [Sem.run_bind, run_underlying' hu, Result.andThen_ok]
      cases d <;> first | rfl | exact (hn1 _ _ hu).elim | exact (hn2 _ hu).elim
theorem shOf_agg {t : TypeId} {s : Sh} (h : shOf P t = some s) (hs : ∀ l, s ≠ .one l) (w : World) : (isAgg t).run P w = .ok true w := by
  unfold shOf at h
  split at h
  · rename_i n e hu
    unfold isAgg
    rw [Sem.run_bind, run_underlying' hu, Result.andThen_ok]
    rfl
  · rename_i fs hu
    unfold isAgg
    rw [Sem.run_bind, run_underlying' hu, Result.andThen_ok]
    rfl
  · split at h
    · injection h with h; exact (hs _ h.symm).elim
    · cases h
theorem run_loadVar_one {t : TypeId} {l : Lf} {ad : Addr} {v : Value} (h : shOf P t = some (.one l)) {w : World} (hc : w.cell? ad = some v) : (loadVar t ad).run P w = .ok v w := by
  unfold loadVar
  rw [Sem.run_bind, shOf_one h, Result.andThen_ok]
  simp [hc]
theorem run_loadVar_agg {t : TypeId} {s : Sh} {ad : Addr} {vs : List Value} (h : shOf P t = some s) (hs : ∀ l, s ≠ .one l) (hz : sizeIs P t vs.length = true) {w : World} (hc : CellsAt w ad 0 vs) : (loadVar t ad).run P w = .ok (.agg vs.toArray) w := by
  unfold loadVar
  rw [Sem.run_bind, shOf_agg h hs, Result.andThen_ok]
  simp only [if_true]
  rw [Sem.run_bind, sizeIs_sound hz, Result.andThen_ok, Sem.run_bind]
  have := run_loadCells (P := P) (acc := #[]) hc
  unfold loadCells
  rw [this]
  simp
theorem LT.length_vals : ∀ (ls : List Lf) (x : LT ls), (LT.vals ls x).length = ls.length
  | [], _ => rfl
  | l :: r, x => by simp [LT.vals, LT.length_vals r]

theorem loadOp_sound {o : Oper} {k : EV → List (Addr × Value) → WP} {w : World} (hk : loadOp P ρ o k w) (H : Agree N ρ a) :
    ∃ e L, (∀ p ∈ L, w.cell? p.1 = some p.2) ∧ k e L w ∧ (∀ cs b, o.op ≠ .select cs b) ∧ (∀ c, o.op ≠ .defer c) ∧
      ∀ w', (∀ p ∈ L, w'.cell? p.1 = some p.2) → (execOp a.eval o).run P w' = .ok (.value e.val) w' := by
  obtain ⟨W, hW, h⟩ : ∃ W, W = loadOp P ρ o k ∧ W w := ⟨_, rfl, hk⟩
  clear hk
  obtain ⟨dst, op, type, pos, after, guard⟩ := o
  cases op <;> simp only [loadOp] at hW <;> try (subst hW; exact h.elim)
  rename_i t x
  have hrun : ∀ {ad : Addr} {v : Value} {w' : World}, a.eval x = .pointer (some ad) → (loadVar t ad).run P w' = .ok v w' → (execOp a.eval ⟨dst, .load t x, type, pos, after, guard⟩).run P w' = .ok (.value v) w' := by
    intro ad v w' hx hl
    simp only [execOp]
    rw [Sem.run_bind]
    have : (Instr.loadAt t (a.eval x)).run P w' = .ok v w' := by
      unfold Instr.loadAt
      rw [hx, Sem.run_bind]
      exact hl
    rw [this]
    rfl
  (repeat' split at hW) <;> subst hW <;> try (exact h.elim)
  · rename_i ad l hx hs
    obtain ⟨y, hc, h⟩ := h
    exact ⟨_, _, by simpa using hc, h, by simp, by simp, fun w' hw' => hrun (ev_eval hx H) (run_loadVar_one hs (hw' (ad, l.val y) (by simp)))⟩
  · rename_i ad ls hx hs _ hz
    obtain ⟨y, hc, h⟩ := h
    exact ⟨_, _, cellsAt_iff.2 hc, h, by simp, by simp, fun w' hw' => hrun (ev_eval hx H) (run_loadVar_agg hs (by simp) (by rw [LT.length_vals]; exact hz) (cellsAt_iff.1 hw'))⟩
  · rename_i ad n hx hs _ hz
    obtain ⟨cs, hn, hc, h⟩ := h
    refine ⟨_, _, cellsAt_iff.2 hc, h, by simp, by simp, fun w' hw' => hrun (ev_eval hx H) ?_⟩
    have := run_loadVar_agg hs (by simp) (by simpa [hn] using hz) (cellsAt_iff.1 hw')
    simpa [EV.val] using this

/-! ### What is done to the world -/
theorem wpIn_of_value {ro : Option Nat} {n : Nat} {o : Oper} {w w' : World} {v : Value} {K : Act → World → Prop} {Q : Exit → Act → World → Prop} (hd : ∀ c, o.op ≠ .defer c)
    (hr : (execOp a.eval o).run P w = .ok (.value v) w') (h : K (a.put o.dst v) w') : o.wpIn (Fr ro) n P a w K Q := by
  refine ⟨fun _ _ => trivial, ?_⟩
  rw [Oper.semAt_eq _ _ _ hd, hr]
  exact h
theorem wpIn_of_skip {ro : Option Nat} {n : Nat} {o : Oper} {w w' : World} {K : Act → World → Prop} {Q : Exit → Act → World → Prop} (hd : ∀ c, o.op ≠ .defer c)
    (hr : (execOp a.eval o).run P w = .ok .skip w') (h : K (a.put o.dst undef) w') : o.wpIn (Fr ro) n P a w K Q := by
  refine ⟨fun _ _ => trivial, ?_⟩
  rw [Oper.semAt_eq _ _ _ hd, hr]
  exact h
theorem run_storeCells {ad : Addr} : ∀ {vs : List Value} {i : Nat} {w : World}, Storable w ad i vs → (storeCells ad vs i).run P w = .ok () (setCells w ad i vs) := by
  intro vs
  induction vs with
  | nil => intro i w _; simp [storeCells, setCells]
  | cons v r ih =>
    intro i w h
    obtain ⟨h1, ⟨u, hu⟩, hf, hr⟩ := h
    simp only [storeCells]
    rw [Sem.run_bind, run_store P w _ v .plain h1, hu]
    simp only [hf, Bool.false_eq_true, if_false, Result.andThen_ok, setCells]
    refine ih ?_
    clear ih h1
    have key : ∀ (r : List Value) (j : Nat), Storable w ad j r → Storable (w.setCell (ad.add i) v) ad j r := by
      intro r
      induction r with
      | nil => intro j _; trivial
      | cons x r ih =>
        intro j h
        obtain ⟨h1, ⟨u', hu'⟩, hf', hr'⟩ := h
        refine ⟨h1, ?_, by simpa using hf', ih _ hr'⟩
        by_cases he : ad.add i = ad.add j
        · rw [← he]; exact ⟨v, World.cell?_setCell_same w _ v hu⟩
        · exact ⟨u', by rw [World.cell?_setCell_other w _ _ v he]; exact hu'⟩
    exact key r _ hr
theorem store_run {o : Oper} {t : TypeId} {x y : Operand} {ad : Addr} {v : Value} {w w' : World} (ho : o.op = .store t x y) (hx : a.eval x = .pointer (some ad)) (hy : a.eval y = v)
    (hs : (storeVar t ad v).run P w = .ok () w') : (execOp a.eval o).run P w = .ok .skip w' := by
  obtain ⟨dst, op, type, pos, after, guard⟩ := o
  simp only at ho
  subst ho
  simp only [execOp]
  rw [Sem.run_bind]
  have : (Instr.storeAt t (a.eval x) (a.eval y)).run P w = .ok () w' := by
    unfold Instr.storeAt
    rw [hx, hy, Sem.run_bind]
    exact hs
  rw [this]
  rfl
theorem run_storeVar {t : TypeId} {ad : Addr} {v : Value} {w : World} (hz : sizeIs P t v.cells.size = true) (hst : Storable w ad 0 v.cells.toList) : (storeVar t ad v).run P w = .ok () (setCells w ad 0 v.cells.toList) := by
  unfold storeVar
  rw [Sem.run_bind, sizeIs_sound hz, Result.andThen_ok]
  simp only [ne_eq, not_true, if_false]
  exact run_storeCells hst
theorem add_zero (ad : Addr) : ad.add 0 = ad := by simp [Addr.add]
theorem enterable_run {f : FuncId} (h : enterable P f = true) (args : Array Value) (w : World) : (callFunc f args).run P w = .ok (.enter f args) w := by
  unfold enterable at h
  cases hf : P.funcs[f]? with
  | none => rw [hf] at h; cases h
  | some fn =>
    rw [hf] at h
    simp only at h
    cases hb : fn.body with
    | none => rw [hb] at h; cases h
    | some c =>
      rw [hb] at h
      have hn : (fn.name == "runtime.NumGoroutine") = false := by simpa using h
      unfold callFunc
      rw [Sem.run_bind, run_program, Result.andThen_ok]
      simp [hf, hn, hb]

theorem callW_wpIn {ro : Option Nat} {n : Nat} {o : Oper} {w : World} {K : Act → World → Prop} {Q : Exit → Act → World → Prop} {f : FuncId} {args : List Value} {r : Rs} {k : r.T → WP} (hd : ∀ c, o.op ≠ .defer c)
    (hr : (execOp a.eval o).run P w = .ok (.enter f args.toArray) w) (h : callW P f args r k w) (hk : ∀ x w', k x w' → K (a.put o.dst (r.val x)) w') : o.wpIn (Fr ro) n P a w K Q := by
  refine ⟨fun _ _ => trivial, ?_⟩
  rw [Oper.semAt_eq _ _ _ hd, hr]
  rw [Oper.uponIn_enter]
  refine ⟨(fun h => by cases h), ?_⟩
  show CallsIn Fence.wide (n - 1) P f args.toArray w _
  refine callsIn_wide.2 (Calls.mono h ?_)
  rintro (v | ch | _) w' he
  · obtain ⟨x, rfl, hx⟩ := he; exact hk x w' hx
  · exact he.elim
  · exact he.elim
theorem yieldW_wpIn {ro : Option Nat} {n : Nat} {o : Oper} {w : World} {K : Act → World → Prop} {Q : Exit → Act → World → Prop} {l : Nat} {args : List Value} {k : Bool → WP} (hd : ∀ c, o.op ≠ .defer c)
    (hr : (execOp a.eval o).run P w = (Instr.yield l args.toArray).run P w) (h : yieldW P l args k w) (hk : ∀ x w', k x w' → K (a.put o.dst (.bool x)) w') : o.wpIn (Fr ro) n P a w K Q := by
  refine ⟨fun _ _ => trivial, ?_⟩
  obtain ⟨fn, tmps, assign, body, hy, hround⟩ := h
  rw [Oper.semAt_eq _ _ _ hd, hr, hy, Oper.uponIn_round]
  refine ⟨(fun h => by cases h), ?_⟩
  refine ⟨trivial, fun c cs _ => ?_⟩
  obtain ⟨e, w', he, hs⟩ := hround.2 c cs (room_wide _)
  refine ⟨e, w', ?_, hs⟩
  cases e with
  | returned v => obtain ⟨b, rfl, hb⟩ := he; exact hk b w' hb
  | panicked ch => exact he.elim
  | outgrown => exact he.elim
theorem yieldAt_wpIn {ro : Option Nat} {n : Nat} {o : Oper} {w : World} {K : Act → World → Prop} {Q : Exit → Act → World → Prop} {l : Nat} {args : List Value} {R : Value → World → Prop} (hd : ∀ c, o.op ≠ .defer c)
    (hr : (execOp a.eval o).run P w = (Instr.yield l args.toArray).run P w) (h : YieldAt P l args w R) (hk : ∀ v w', R v w' → K (a.put o.dst v) w') : o.wpIn (Fr ro) n P a w K Q := by
  refine ⟨fun _ _ => trivial, ?_⟩
  obtain ⟨fn, tmps, assign, body, hy, hround⟩ := h
  rw [Oper.semAt_eq _ _ _ hd, hr, hy, Oper.uponIn_round]
  refine ⟨(fun h => by cases h), ?_⟩
  refine ⟨trivial, fun c cs _ => ?_⟩
  obtain ⟨e, w', he, hs⟩ := hround.2 c cs (room_wide _)
  refine ⟨e, w', ?_, hs⟩
  cases e with
  | returned v => exact hk v w' he
  | panicked ch => exact he.elim
  | outgrown => exact he.elim
theorem evs_map {xs : Array Operand} {vs : List Value} (h : evs ρ xs.toList = some vs) (H : Agree N ρ a) : xs.map a.eval = vs.toArray := by
  have := evs_sound h H
  rw [← this]
  apply Array.toList_inj.1
  simp
theorem run_call_value {o : Oper} {f : Operand} {args : Array Operand} {ts : Array TypeId} {fn : Fn} {first cap : Array Value} {vs : List Value} {w : World}
    (ho : o.op = .call { callee := .value f, args := args, argTypes := ts }) (hf : a.eval f = .func fn first cap) (hv : args.map a.eval = vs.toArray) :
    (execOp a.eval o).run P w = (invoke (.fn fn cap) (first ++ vs.toArray)).run P w := by
  obtain ⟨dst, op, type, pos, after, guard⟩ := o
  simp only at ho
  subst ho
  simp [execOp, resolve, hf, hv, Deferred.ofValue]
theorem run_builtin {o : Oper} {b : Builtin} {args : Array Operand} {ts : Array TypeId} {vs : List Value} {w : World}
    (ho : o.op = .call { callee := .builtin b, args := args, argTypes := ts }) (hv : args.map a.eval = vs.toArray) :
    ∃ cs, (execOp a.eval o).run P w = (builtin b ts o.type cs vs.toArray).run P w := by
  obtain ⟨dst, op, type, pos, after, guard⟩ := o
  simp only at ho
  subst ho
  exact ⟨_, by simp [execOp, resolve, hv, invoke]; rfl⟩

theorem spineOp_sound {ro : Option Nat} {n : Nat} {o : Oper} {k : EV → WP} {w : World} (hk : spineOp P ρ o k w) (H : Agree N ρ a) {K : Act → World → Prop} {Q : Exit → Act → World → Prop}
    (hK : ∀ e w', k e w' → K (a.put o.dst e.val) w') : o.wpIn (Fr ro) n P a w K Q := by
  obtain ⟨W, hW, h⟩ : ∃ W, W = spineOp P ρ o k ∧ W w := ⟨_, rfl, hk⟩
  clear hk
  obtain ⟨dst, op, type, pos, after, guard⟩ := o
  cases op <;> (try (simp only [spineOp] at hW; subst hW; exact h.elim))
  case store t x y =>
    simp only [spineOp] at hW
    (repeat' split at hW) <;> subst hW <;> try (exact h.elim)
    · rename_i ad e l hx hy hs _ hz _ hv1 hv2
      obtain ⟨⟨u, hu⟩, hf, h⟩ := h
      have hone : e.val.oneCell' = true := by
        generalize e.val = v at hv1 hv2
        cases v <;> first | rfl | (exfalso; first | exact hv1 _ rfl | exact hv2 _ rfl)
      have hc : e.val.cells = #[e.val] := by
        generalize e.val = v at hv1 hv2
        cases v <;> first | rfl | (exfalso; first | exact hv1 _ rfl | exact hv2 _ rfl)
      refine wpIn_of_skip (by simp) (store_run (w' := w.setCell ad e.val) rfl (ev_eval hx H) (ev_eval hy H) ?_) (hK .u _ h)
      have := run_storeVar (P := P) (t := t) (ad := ad) (v := e.val) (w := w) (by rw [hc]; exact hz) (by rw [hc]; exact ⟨hone, by rw [add_zero]; exact ⟨u, hu⟩, by rw [add_zero]; exact hf, trivial⟩)
      rw [this, hc]
      simp [setCells, add_zero]
    · rename_i ad cs ls hx hy hs _ hz
      obtain ⟨hn, hst, h⟩ := h
      exact wpIn_of_skip (by simp) (store_run rfl (ev_eval hx H) (ev_eval hy H) (run_storeVar (v := .agg cs) (by simpa [Value.cells, hn] using hz) hst)) (hK .u _ h)
    · rename_i ad cs n hx hy hs _ hz
      obtain ⟨hn, hst, h⟩ := h
      exact wpIn_of_skip (by simp) (store_run rfl (ev_eval hx H) (ev_eval hy H) (run_storeVar (v := .agg cs) (by simpa [Value.cells, hn] using hz) hst)) (hK .u _ h)
  case alloc t =>
    simp only [spineOp] at hW
    subst hW
    obtain ⟨v, w', hr, h⟩ := symRun_run _ _ _ h
    exact wpIn_of_value (by simp) (v := v) (by simp only [execOp]; rw [Sem.run_bind, hr]; rfl) (hK (.v v) _ h)
  case box t x =>
    simp only [spineOp] at hW
    split at hW <;> subst hW
    · rename_i e he
      obtain ⟨v, w', hr, h⟩ := symRun_run _ _ _ h
      exact wpIn_of_value (by simp) (v := v) (by simp only [execOp]; rw [Sem.run_bind, ev_eval he H, hr]; rfl) (hK (.v v) _ h)
    · exact h.elim
  case buildSlice t n ps =>
    simp only [spineOp] at hW
    split at hW <;> subst hW
    · rename_i vs he
      obtain ⟨v, w', hr, h⟩ := symRun_run _ _ _ h
      have e : (ps.map fun (i, x) => (i, a.eval x)) = ((ps.toList.map (·.1)).zip vs).toArray := by
        have := evs_sound he H
        rw [← this]
        apply Array.toList_inj.1
        simp only [Array.toList_map, List.map_map]
        generalize ps.toList = l
        induction l with
        | nil => rfl
        | cons p r ih => simp [ih]
      exact wpIn_of_value (by simp) (v := v) (by simp only [execOp]; rw [Sem.run_bind, e, hr]; rfl) (hK (.v v) _ h)
    · exact h.elim
  case makeMap t r =>
    cases r <;> simp only [spineOp] at hW <;> subst hW
    · obtain ⟨v, w', hr, h⟩ := h
      exact wpIn_of_value (by simp) (v := Lf.any.val v) (by simp only [execOp, Option.map_none]; rw [Sem.run_bind, hr]; rfl) (hK (.v v) _ h)
    · exact h.elim
  case lookup t x i ok =>
    simp only [spineOp] at hW
    split at hW <;> subst hW
    · rename_i m e r hm he _
      obtain ⟨z, w', hr, h⟩ := h
      exact wpIn_of_value (by simp) (v := r.val z) (by simp only [execOp]; rw [Sem.run_bind, ev_eval hm H, ev_eval he H, hr]; rfl) (hK (.v (r.val z)) _ h)
    · exact h.elim
  case mapUpdate t m kx x =>
    simp only [spineOp] at hW
    split at hW <;> subst hW
    · rename_i m0 e0 x0 hm he hx
      obtain ⟨w', hr, h⟩ := h
      exact wpIn_of_skip (by simp) (by simp only [execOp]; rw [Sem.run_bind, ev_eval hm H, ev_eval he H, ev_eval hx H, hr]; rfl) (hK .u _ h)
    · exact h.elim
  case insert t m kx x =>
    simp only [spineOp] at hW
    split at hW <;> subst hW
    · rename_i m0 e0 x0 hm he hx
      obtain ⟨w', hr, h⟩ := h
      exact wpIn_of_skip (by simp) (by simp only [execOp]; rw [Sem.run_bind, ev_eval hm H, ev_eval he H, ev_eval hx H, hr]; rfl) (hK .u _ h)
    · exact h.elim
  case range t x =>
    simp only [spineOp] at hW
    split at hW <;> subst hW
    · rename_i s ht he
      have hr : (Instr.range t (.string s)).run P w = .ok (.pointer (some ⟨w.heap.size, 0, none⟩)) (w.alloc (.stringIter s 0)) := by
        simp [Instr.range, run_underlying ht, Result.andThen]
      exact wpIn_of_value (by simp) (v := .pointer (some ⟨w.heap.size, 0, none⟩)) (by simp only [execOp]; rw [Sem.run_bind, ev_eval he H]; show Result.andThen _ _ = _; simp only [EV.val]; rw [hr]; rfl) (hK (.v (.pointer (some ⟨w.heap.size, 0, none⟩))) _ h)
    · exact h.elim
  case next x isS =>
    cases isS with
    | false => simp only [spineOp] at hW; subst hW; exact h.elim
    | true =>
      simp only [spineOp] at hW
      split at hW <;> subst hW
      · rename_i r sp he
        obtain ⟨s, pos, hb, h1, h0⟩ := h
        have hv := ev_eval he H
        by_cases hp : pos < s.size
        · have hr : (Instr.next (.pointer (some ⟨r, 0, sp⟩)) true type).run P w = .ok (.tuple #[.bool true, .int .i64 (pos : Int), .int .i32 (Utf8.decode s pos).1]) (setO w r (.stringIter s (pos + (Utf8.decode s pos).2))) := by
            simp [Instr.next, getObj, setObj, Sem.run, hb, hp, Result.andThen, setO, goInt]
          exact wpIn_of_value (by simp) (by simp only [execOp]; rw [Sem.run_bind, hv]; simp only [EV.val]; rw [hr]; rfl) (hK (.v (.tuple #[.bool true, .int .i64 (pos : Int), .int .i32 (Utf8.decode s pos).1])) _ (h1 hp))
        · have hr : (Instr.next (.pointer (some ⟨r, 0, sp⟩)) true type).run P w = .ok (.tuple #[.bool false]) w := by
            simp [Instr.next, getObj, setObj, Sem.run, hb, hp, Result.andThen]
          exact wpIn_of_value (by simp) (by simp only [execOp]; rw [Sem.run_bind, hv]; simp only [EV.val]; rw [hr]; rfl) (hK (.v (.tuple #[.bool false])) _ (h0 hp))
      · exact h.elim
  case makeSlice t l c =>
    simp only [spineOp] at hW
    split at hW <;> subst hW
    · rename_i x y lf hl hc _
      obtain ⟨z, w', hr, h⟩ := h
      exact wpIn_of_value (by simp) (v := lf.val z) (by simp only [execOp]; rw [Sem.run_bind, ev_eval hl H, ev_eval hc H, hr]; rfl) (hK (.v (lf.val z)) _ h)
    · exact h.elim
  case convert s d x =>
    simp only [spineOp] at hW
    split at hW <;> subst hW
    · rename_i e lf _ _ hx _
      obtain ⟨z, w', hr, h⟩ := h
      exact wpIn_of_value (by simp) (v := lf.val z) (by simp only [execOp]; rw [Sem.run_bind, ev_eval hx H, hr]; rfl) (hK (.v (lf.val z)) _ h)
    · exact h.elim
  case call c =>
    obtain ⟨callee, args, ts⟩ := c
    cases callee with
    | invoke r m => simp only [spineOp] at hW; subst hW; exact h.elim
    | builtin b =>
      simp only [spineOp] at hW
      split at hW
      · rename_i vs lf hv _
        obtain ⟨cs, hb⟩ := run_builtin (P := P) (w := w) (o := ⟨dst, .call { callee := .builtin b, args := args, argTypes := ts }, type, pos, after, guard⟩) rfl (evs_map hv H)
        cases b <;> simp only at hW <;> subst hW <;> try (exact h.elim)
        · obtain ⟨z, w', hr, h⟩ := h
          exact wpIn_of_value (by simp) (v := lf.val z) (by rw [hb]; simp only [builtin]; rw [Sem.run_bind, hr]; rfl) (hK (.v (lf.val z)) _ h)
        · obtain ⟨z, w', hr, h⟩ := h
          exact wpIn_of_value (by simp) (v := lf.val z) (by rw [hb]; simp only [builtin]; rw [Sem.run_bind, hr]; rfl) (hK (.v (lf.val z)) _ h)
      · subst hW; exact h.elim
    | value f =>
      have dyn : ∀ {e : EV} {vs : List Value} {r : Rs}, ev ρ f = some e → evs ρ args.toList = some vs → callVW P e.val vs r (fun x => k (.v (r.val x))) w →
          Oper.wpIn (Fr ro) n P ⟨dst, .call { callee := .value f, args := args, argTypes := ts }, type, pos, after, guard⟩ a w K Q := by
        intro e vs r hf hv h
        rcases h with ⟨g, cap, he, hen, h⟩ | ⟨l, he, h⟩
        · refine callW_wpIn (by simp) ?_ h (fun x w' hx => hK (.v (r.val x)) _ hx)
          rw [run_call_value (o := ⟨dst, .call { callee := .value f, args := args, argTypes := ts }, type, pos, after, guard⟩) rfl ((ev_eval hf H).trans he) (evs_map hv H)]
          show (callFunc g (#[] ++ vs.toArray ++ cap)).run P w = _
          rw [enterable_run hen]
          congr 2
          apply Array.toList_inj.1
          simp
        · refine yieldAt_wpIn (by simp) ?_ h ?_
          · rw [run_call_value (o := ⟨dst, .call { callee := .value f, args := args, argTypes := ts }, type, pos, after, guard⟩) rfl ((ev_eval hf H).trans he) (evs_map hv H)]
            show (Instr.yield l (#[] ++ vs.toArray)).run P w = _
            rw [Array.empty_append]
          · rintro v w' ⟨x, rfl, hx⟩
            exact hK (.v (r.val x)) _ hx
      have stat : ∀ {g : FuncId} {vs : List Value} {r : Rs}, f = .func g → evs ρ args.toList = some vs → enterable P g = true → callW P g vs r (fun x => k (.v (r.val x))) w →
          Oper.wpIn (Fr ro) n P ⟨dst, .call { callee := .value f, args := args, argTypes := ts }, type, pos, after, guard⟩ a w K Q := by
        intro g vs r hf hv hen h
        refine callW_wpIn (by simp) ?_ h (fun x w' hx => hK (.v (r.val x)) _ hx)
        rw [run_call_value (first := #[]) (cap := #[]) (fn := .func g) (o := ⟨dst, .call { callee := .value f, args := args, argTypes := ts }, type, pos, after, guard⟩) rfl (by subst hf; rfl) (evs_map hv H)]
        show (callFunc g (#[] ++ vs.toArray ++ #[])).run P w = _
        rw [enterable_run hen]
        congr 2
        apply Array.toList_inj.1
        simp
      cases f <;> simp only [spineOp] at hW
      case func g =>
        split at hW <;> subst hW
        · rename_i vs r hv hen hr
          exact stat rfl hv hen h
        · exact h.elim
      all_goals
        split at hW <;> subst hW
        · rename_i e vs r hf hv hr
          exact dyn hf hv h
        · exact h.elim
end
end Go.Proofs.YtlpniinmomhkcaaDoor.V
