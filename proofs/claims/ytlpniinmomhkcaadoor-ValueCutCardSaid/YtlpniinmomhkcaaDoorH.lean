/- What the proofs say of memory: blocks, slices that are read, worlds that only grew. It speaks of no program. -/
import Derived.Test.YtlpniinmomhkcaaDoorVE
import Derived.Below
import Derived.Laws.AppendOwn
import Derived.Laws.OwnMore
set_option linter.unusedVariables false
set_option linter.unusedSimpArgs false
namespace Go.Proofs.YtlpniinmomhkcaaDoor.V
open Go Go.RowKit

/-! ### Worlds that only grew -/
def Ext (w w' : World) : Prop := Below w.heap.size w w'
theorem Ext.refl (w : World) : Ext w w := Below.refl _ _
theorem Ext.size {w w' : World} (h : Ext w w') : w.heap.size ≤ w'.heap.size := Below.size h
theorem Ext.trans {a b c : World} (h : Ext a b) (k : Ext b c) : Ext a c := Below.trans h (Below.mono k (Ext.size h))
theorem Ext.alloc {a w : World} (h : Ext a w) (o : Obj) : Ext a (w.alloc o) := Below.alloc h (Ext.size h) o
theorem Ext.drew {a w : World} (h : Ext a w) : Ext a w.drew := Below.drew h
theorem Ext.set {a w : World} (h : Ext a w) {p : Addr} (hp : a.heap.size ≤ p.block) (v : Value) : Ext a (w.setCell p v) := Below.setCell h hp v
theorem Ext.cell {w w' : World} (h : Ext w w') {p : Addr} {v : Value} (hc : w.cell? p = some v) : w'.cell? p = some v := (Below.cell h (World.block_lt_of_cell? w p hc)).trans hc
theorem Ext.heap {w w' : World} (h : Ext w w') {b : Nat} {o : Obj} (hb : w.heap[b]? = some o) : w'.heap[b]? = some o :=
  (Below.block h b (Array.getElem?_eq_some_iff.1 hb).1).trans hb
theorem Ext.setCells {a : World} {p : Addr} (hp : a.heap.size ≤ p.block) : ∀ (vs : List Value) (i : Nat) (w : World), Ext a w → Ext a (setCells w p i vs)
  | [], _, _, h => h
  | v :: r, i, w, h => Ext.setCells hp r (i + 1) _ (h.set (by unfold Addr.add; split <;> exact hp) v)

theorem add_mk (b o j : Nat) : (⟨b, o, none⟩ : Addr).add j = ⟨b, o + j, none⟩ := by unfold Addr.add; split <;> simp_all
theorem add_add (a : Addr) (i j : Nat) (h : a.spot = none) : (a.add i).add j = a.add (i + j) := by
  obtain ⟨b, o, s⟩ := a
  simp only at h
  subst h
  rw [add_mk, add_mk, add_mk, Nat.add_assoc]

/-! ### A block known whole -/
def Blk (w : World) (b : Nat) (cs : List Value) (t : TypeId) : Prop := w.heap[b]? = some (.cells cs.toArray t (0, 0))
section
variable {w w' : World} {b b' : Nat} {cs : List Value} {t t' : TypeId}
theorem Blk.lt (h : Blk w b cs t) : b < w.heap.size := (Array.getElem?_eq_some_iff.1 h).1
theorem Blk.new (w : World) (cs : Array Value) (t : TypeId) : Blk (w.alloc (.cells cs t)) w.heap.size cs.toList t := by
  show (w.heap.push _)[w.heap.size]? = _
  simp
theorem Blk.cell (h : Blk w b cs t) (o : Nat) : w.cell? ⟨b, o, none⟩ = cs[o]? := by simp [World.cell?, show w.heap[b]? = _ from h]
theorem Blk.frozen (h : Blk w b cs t) (o : Nat) : w.frozen? ⟨b, o, none⟩ = false := by simp [World.frozen?, show w.heap[b]? = _ from h]
theorem Blk.ext (h : Blk w b cs t) (he : Ext w w') : Blk w' b cs t := he.heap h
theorem Blk.alloc (h : Blk w b cs t) (o : Obj) : Blk (w.alloc o) b cs t := h.ext ((Ext.refl w).alloc o)
theorem Blk.drew (h : Blk w b cs t) : Blk w.drew b cs t := h
theorem Blk.set (h : Blk w b cs t) (o : Nat) (v : Value) : Blk (w.setCell ⟨b, o, none⟩ v) b (cs.set o v) t := by
  obtain ⟨hlt, hk⟩ := Array.getElem?_eq_some_iff.1 h
  show (w.heap.modify b _)[b]? = _
  rw [Array.getElem?_eq_getElem (by rw [Array.size_modify]; exact hlt), Array.getElem_modify_self, hk]
  simp
theorem Blk.other (h : Blk w b cs t) {p : Addr} (hp : p.block ≠ b) (v : Value) : Blk (w.setCell p v) b cs t := by
  show (w.setCell p v).heap[b]? = _
  rw [Below.heap_setCell _ _ _ _ (Ne.symm hp)]
  exact h
theorem Blk.inj {cs' : List Value} (h : Blk w b cs t) (h' : Blk w b cs' t') : cs = cs' ∧ t = t' := by
  have := (show w.heap[b]? = _ from h).symm.trans h'
  simp at this
  exact this
theorem Blk.setCells_from : ∀ (vs : List Value) (i : Nat) (w : World) (cs : List Value), Blk w b cs t → i + vs.length ≤ cs.length → Blk (setCells w ⟨b, 0, none⟩ i vs) b (cs.take i ++ vs ++ cs.drop (i + vs.length)) t
  | [], i, w, cs, h, _ => by simpa [setCells] using h
  | v :: r, i, w, cs, h, hl => by
    simp only [setCells, add_mk, Nat.zero_add]
    have h1 := h.set i v
    have h2 := Blk.setCells_from r (i + 1) _ _ h1 (by simp only [List.length_set, List.length_cons] at hl ⊢; omega)
    have hlen : i < cs.length := by simp only [List.length_cons] at hl; omega
    have e : (cs.set i v).take (i + 1) ++ r ++ (cs.set i v).drop (i + 1 + r.length) = cs.take i ++ (v :: r) ++ cs.drop (i + (v :: r).length) := by
      rw [List.drop_set_of_lt (by omega), List.take_set, List.set_eq_take_append_cons_drop]
      have : i < (cs.take (i + 1)).length := by simp; omega
      rw [if_pos this]
      simp [List.take_take, Nat.min_eq_left (show i ≤ i + 1 by omega), Nat.add_comm, Nat.add_left_comm]
    rw [e] at h2
    exact h2
theorem Blk.setCells (h : Blk w b cs t) (vs : List Value) (hl : vs.length = cs.length) : Blk (setCells w ⟨b, 0, none⟩ 0 vs) b vs t := by
  have := Blk.setCells_from vs 0 w cs h (by omega)
  simpa [hl] using this
theorem Blk.storable_from (h : Blk w b cs t) : ∀ (vs : List Value) (i : Nat), i + vs.length ≤ cs.length → (∀ v ∈ vs, v.oneCell' = true) → Storable w ⟨b, 0, none⟩ i vs
  | [], _, _, _ => trivial
  | v :: r, i, hl, ho => by
    simp only [List.length_cons] at hl
    refine ⟨ho v List.mem_cons_self, ?_, ?_, Blk.storable_from h r (i + 1) (by omega) (fun x hx => ho x (List.mem_cons_of_mem _ hx))⟩
    · rw [add_mk, h.cell]; exact ⟨_, List.getElem?_eq_getElem (by omega)⟩
    · rw [add_mk]; exact h.frozen _
theorem Blk.cellsAt_from (h : Blk w b cs t) : ∀ (vs : List Value) (i : Nat), cs.drop i = vs → CellsAt w ⟨b, 0, none⟩ i vs
  | [], _, _ => trivial
  | v :: r, i, hd => by
    refine ⟨?_, Blk.cellsAt_from h r (i + 1) ?_⟩
    · rw [add_mk, h.cell]
      have := congrArg (fun l => l[0]?) hd
      simpa using this
    · have := congrArg (List.drop 1) hd
      simpa [List.drop_drop, Nat.add_comm] using this
theorem Blk.cellsAt (h : Blk w b cs t) : CellsAt w ⟨b, 0, none⟩ 0 cs := h.cellsAt_from cs 0 rfl
end

/-! ### A slice that is read -/
def Cells (w : World) (a : Addr) (vs : List Value) : Prop := ∀ (j : Nat) (v : Value), vs[j]? = some v → w.cell? (a.add j) = some v
def Sl (w : World) (A : Option Addr) (n : Nat) (vs : List Value) : Prop := vs.length = n ∧ n ≤ 9223372036854775807 ∧ (0 < n → ∃ a, A = some a ∧ Cells w a vs)
section
variable {w w' : World} {A : Option Addr} {n c : Nat} {vs : List Value}
theorem Sl.len (h : Sl w A n vs) : vs.length = n := h.1
theorem Sl.le (h : Sl w A n vs) : n ≤ 9223372036854775807 := h.2.1
theorem Sl.ext (h : Sl w A n vs) (he : Ext w w') : Sl w' A n vs := ⟨h.1, h.2.1, fun hn => by
  obtain ⟨a, e, hc⟩ := h.2.2 hn
  exact ⟨a, e, fun j v hj => he.cell (hc j v hj)⟩⟩
theorem Sl.nil (w : World) (A : Option Addr) : Sl w A 0 [] := ⟨rfl, by omega, fun h => absurd h (by omega)⟩
theorem Sl.drew (h : Sl w A n vs) : Sl w.drew A n vs := h
theorem Sl.at_ (h : Sl w A n vs) {j : Nat} {v : Value} (hv : vs[j]? = some v) : ∃ a, A = some a ∧ w.cell? (a.add j) = some v := by
  have hj : j < vs.length := (List.getElem?_eq_some_iff.1 hv).1
  obtain ⟨a, e, hc⟩ := h.2.2 (by rw [← h.1]; omega)
  exact ⟨a, e, hc j v hv⟩
theorem Sl.of_blk {b : Nat} {t : TypeId} (h : Blk w b vs t) (hn : vs.length = n) (hm : n ≤ 9223372036854775807) : Sl w (some ⟨b, 0, none⟩) n vs := ⟨hn, hm, fun _ => ⟨_, rfl, fun j v hj => by rw [add_mk, h.cell]; simpa using hj⟩⟩
theorem spot_of_cell {a : Addr} {v : Value} (h : w.cell? a = some v) : a.spot = none := by
  unfold World.cell? at h
  split at h
  · cases hs : a.spot with
    | none => rfl
    | some x => simp [hs] at h
  · cases h
/-- s[l:h], of elements of a cell each. -/
theorem Sl.cut (h : Sl w A n vs) {l k m : Nat} (hlk : l + k ≤ n) (hm : m = l → k = 0) : Sl w (cutAddr A l m 1) k ((vs.drop l).take k) := by
  refine ⟨by have := h.1; simp; omega, by have := h.2.1; omega, fun hk => ?_⟩
  obtain ⟨a, rfl, hc⟩ := h.2.2 (by omega)
  have hlen := h.1
  have hsp : a.spot = none := by
    have h0 := hc 0 (vs[0]'(by omega)) (List.getElem?_eq_getElem (by omega))
    rw [show a.add 0 = a by simp [Addr.add]] at h0
    exact spot_of_cell h0
  refine ⟨a.add l, ?_, fun j v hj => ?_⟩
  · unfold cutAddr
    rw [if_neg (fun e => by have := hm e; omega)]
    simp
  · rw [add_add a l j hsp]
    apply hc
    rw [List.getElem?_take] at hj
    split at hj
    · simpa using hj
    · cases hj
theorem Sl.cut0 (h : Sl w A n vs) {k m : Nat} (hk : k ≤ n) (hm : m = 0 → k = 0) : Sl w (cutAddr A 0 m 1) k (vs.take k) := by simpa using h.cut (l := 0) (k := k) (m := m) (by omega) hm
end
def nV (k : IntKind) (xs : List Int) : List Value := xs.map fun x => .int k x
def bV (bs : List UInt8) : List Value := bs.map fun b => .int .u8 (b.toNat : Int)
theorem length_bV (bs : List UInt8) : (bV bs).length = bs.length := by simp [bV]
theorem bV_append (a b : List UInt8) : bV (a ++ b) = bV a ++ bV b := by simp [bV]
theorem bV_take (a : List UInt8) (n : Nat) : (bV a).take n = bV (a.take n) := by simp [bV]
theorem bV_drop (a : List UInt8) (n : Nat) : (bV a).drop n = bV (a.drop n) := by simp [bV]
theorem Sl.blen {w : World} {A : Option Addr} {n : Nat} {bs : List UInt8} (h : Sl w A n (bV bs)) : bs.length = n := by rw [← length_bV]; exact h.1
/-- A byte of a slice is read. -/
theorem idx_byte {w : World} {A : Option Addr} {n : Nat} {bs : List UInt8} {i : Int} {K : Int → WP} (h : Sl w A n (bV bs)) (h0 : 0 ≤ i) (h1 : i < (n : Int)) (hK : K ((bs.getD i.toNat 0).toNat : Int) w) :
    (guardW (0 ≤ i ∧ i < ((n : Nat) : Int)) <| ptrW A fun p => ldW (.int .u8) (p.add (Int.toNat i * 1)) K) w := by
  have hl := h.blen
  have hlt : i.toNat < bs.length := by omega
  obtain ⟨a, e, hc⟩ := h.at_ (j := i.toNat) (v := .int .u8 ((bs.getD i.toNat 0).toNat : Int)) (by simp [bV, hlt])
  exact ⟨⟨h0, h1⟩, a, e, _, by rw [Nat.mul_one]; exact hc, hK⟩
/-- A store into a block. -/
theorem stW_blk {w : World} {b o : Nat} {cs : List Value} {t : TypeId} {v : Value} {K : WP} (h : Blk w b cs t) (ho : o < cs.length) (hK : K (w.setCell ⟨b, o, none⟩ v)) : stW ⟨b, o, none⟩ v K w :=
  ⟨⟨_, by rw [h.cell]; exact List.getElem?_eq_getElem ho⟩, h.frozen o, hK⟩
theorem ldW_blk {w : World} {b o : Nat} {cs : List Value} {t : TypeId} {l : Lf} {x : l.T} {K : l.T → WP} (h : Blk w b cs t) (ho : cs[o]? = some (l.val x)) (hK : K x w) : ldW l ⟨b, o, none⟩ K w :=
  ⟨x, by rw [h.cell]; exact ho, hK⟩
/-! ### Rules, a word each -/
theorem newW_i {w : World} {o : Obj} {K : Nat → WP} (h : K w.heap.size (w.alloc o)) : newW o K w := h
theorem splitW_i {w : World} {b : Bool} {A B : WP} (ht : b = true → A w) (hf : b = false → B w) : splitW b A B w := ⟨ht, hf⟩
theorem splitW_t {w : World} {b : Bool} {A B : WP} (hb : b = true) (h : A w) : splitW b A B w := ⟨fun _ => h, fun e => by rw [hb] at e; cases e⟩
theorem splitW_f {w : World} {b : Bool} {A B : WP} (hb : b = false) (h : B w) : splitW b A B w := ⟨(fun e => by rw [hb] at e; cases e), fun _ => h⟩
theorem loopW_i {T : Type} {x0 : T} {B : T → (T → WP) → WP} {w : World} (I : T → WP) (μ : T → Nat) (h0 : I x0 w) (h : ∀ x w, I x w → B x (fun x' w' => I x' w' ∧ μ x' < μ x) w) : loopW T x0 B w :=
  ⟨I, fun x _ => μ x, h0, h⟩
/-- Where ways meet: what holds there, once. -/
theorem joinW_i {T : Type} {A : (T → WP) → WP} {B : T → WP} {w : World} (h : ∀ J : T → WP, (∀ x w, B x w → J x w) → A J w) : joinW T A B w := h
theorem joinW_s {T : Type} {A : (T → WP) → WP} {B : T → WP} {w : World} (I : T → WP) (hB : ∀ x w, I x w → B x w) (h : ∀ J : T → WP, (∀ x w, I x w → J x w) → A J w) : joinW T A B w :=
  fun J hJ => h J fun x w hI => hJ x w (hB x w hI)
/-- A call, by its contract; what comes back is told by its shape. -/
theorem callW_i {P : Program} {f : FuncId} {args : List Value} {r : Rs} {K : r.T → WP} {w : World} {R : Value → World → Prop} (h : Calls P f args.toArray w (Ret R)) (x : World → r.T) (hk : ∀ v w', R v w' → v = r.val (x w') ∧ K (x w') w') : callW P f args r K w :=
  callW_of h fun v w' hr => ⟨x w', hk v w' hr⟩
theorem callW_e {P : Program} {f : FuncId} {args : List Value} {r : Rs} {K : r.T → WP} {w : World} {R : r.T → World → Prop} (h : Calls P f args.toArray w (Ret fun v w' => ∃ x, v = r.val x ∧ R x w')) (hk : ∀ x w', R x w' → K x w') : callW P f args r K w :=
  callW_of h fun v w' ⟨x, hv, hx⟩ => ⟨x, hv, hk x w' hx⟩
end Go.Proofs.YtlpniinmomhkcaaDoor.V
