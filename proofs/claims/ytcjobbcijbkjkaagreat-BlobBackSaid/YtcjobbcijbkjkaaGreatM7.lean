/- Texts of mine, merged (wip/tool/merge.py): Good2, BlobP, KBlob1, KBlob2, KBlob3, Good3, BlobL, KAt, L, LP, Taken, KCommit, KOpen, Great. -/
import Derived.Test.YtcjobbcijbkjkaaGreatM6
/- Spaces that are well: Share, Drop, Audit. -/
set_option linter.unusedVariables false
set_option linter.unusedSimpArgs false
namespace Go.Proofs.YtcjobbcijbkjkaaGreat.V
open Go Go.Proofs Go.RowKit Crc

theorem Good.setNow {S : Spa} {R R' : List Nat} {c : List Nat} (h : Good S R) (hl : c.length = S.now.length) (hw : WellC S.N S.sup.pages S.page c R') : Good { S with now := c } R' :=
  ⟨⟨h.ok.size, h.ok.blocks, h.ok.fits, h.ok.held, hl.trans h.ok.now, h.ok.mark⟩, h.dev, h.fuse, h.gen, hw⟩
theorem share_good {S : Spa} {R : List Nat} {n : Nat} (h : Good S R) (hn : usedC S.sup.pages S.now n = true) (h6 : S.now.getD n 0 < 65535) : (S.share n).2 = 0 ∧ Good (S.share n).1 (n :: R) ∧ (S.share n).1 = { S with now := S.now.set n (S.now.getD n 0 + 1) } := by
  obtain ⟨h1, h2, h3⟩ := used_asked h hn
  have ha := atE_used h.well hn
  have e1 : addE S.now n = 0 := by unfold addE; rw [if_pos ha, if_neg (by omega)]
  have e2 : addL S.now n = S.now.set n (S.now.getD n 0 + 1) := by unfold addL; rw [if_pos e1]
  unfold Spa.share
  rw [if_neg (by rw [h1]; simp), e1, e2]
  exact ⟨rfl, h.setNow (by simp) (h.well.share hn), rfl⟩
theorem drop_good {S : Spa} {R : List Nat} {n : Nat} (h : Good S (n :: R)) : ∃ c', Drp S.asked S.page S.now [n] c' 0 ∧ Good { S with now := c' } R ∧ c'.length = S.now.length ∧ ∀ k, c'.getD k 0 ≤ S.now.getD k 0 := by
  obtain ⟨c', h1, h2, h3, h4⟩ := WellC.drop (N := S.N) (ps := S.sup.pages) (pg := S.page) (ask := S.asked) (fun n a1 a2 a3 => asked_iff.2 ⟨a1, a2, a3⟩) S.now.sum [n] (Nat.le_refl _) (R := R) h.well
  exact ⟨c', h1, h.setNow h3 h2, h3, h4⟩
/-! ### Audit -/
def newC (N : Nat) (s s' : List Bool) (pg : PgF) (x m : Nat) : Nat := if s'.getD m false = true ∧ s.getD m false = false then (kidsP pg m).count x else 0
theorem getD_setB (l : List Bool) (i k : Nat) (x : Bool) : (l.set i x).getD k false = if i = k ∧ k < l.length then x else l.getD k false := by
  rw [List.getD_eq_getElem?_getD, List.getD_eq_getElem?_getD, List.getElem?_set]
  by_cases hik : i = k
  · subst hik
    by_cases hk : i < l.length
    · simp [hk]
    · simp [hk]
  · rw [if_neg hik, if_neg (fun h => hik h.1)]
theorem sum_add {f g : Nat → Nat} : ∀ N, ((List.range N).map fun m => f m + g m).sum = ((List.range N).map f).sum + ((List.range N).map g).sum
  | 0 => rfl
  | N + 1 => by
    have := sum_add (f := f) (g := g) N
    simp only [List.range_succ, List.map_append, List.map_cons, List.map_nil, List.sum_append, List.sum_cons, List.sum_nil]
    omega
theorem sum_congr {f g : Nat → Nat} {N : Nat} (h : ∀ m, m < N → f m = g m) : ((List.range N).map f).sum = ((List.range N).map g).sum := by
  congr 1
  exact List.map_congr_left (fun m hm => h m (List.mem_range.1 hm))
theorem sum_zeros : ∀ N : Nat, ((List.range N).map fun _ => 0).sum = 0
  | 0 => rfl
  | N + 1 => by
    rw [List.range_succ, List.map_append, List.sum_append, sum_zeros N]
    rfl
structure VisOk (N : Nat) (U : Nat → Bool) (pg : PgF) (s : List Bool) (l ys : List Nat) (s' : List Bool) : Prop where
  cnt : ∀ x, ys.count x = l.count x + ((List.range N).map (newC N s s' pg x)).sum
  sub : ∀ m, s.getD m false = true → s'.getD m false = true
  all : ∀ k ∈ l, s'.getD k false = true
  new : ∀ m, s'.getD m false = true → s.getD m false = true ∨ (U m = true ∧ ∀ k ∈ kidsP pg m, s'.getD k false = true)
  use : ∀ y ∈ ys, U y = true
theorem vis_ok {N : Nat} {get pg : PgF} {U : Nat → Bool} {r : Nat → Nat} (hU : ∀ n, U n = true → 2 ≤ n ∧ n < N ∧ get n = pg n ∧ (pg n).2 = 0 ∧ ∀ k ∈ kidsP pg n, U k = true ∧ r k < r n) :
    ∀ (d : Nat) (l : List Nat) (s : List Bool), s.length = N → (∀ k ∈ l, U k = true ∧ r k < d) → ∃ ys s', Vis get d s l ys s' 0 ∧ VisOk N U pg s l ys s' := by
  intro d
  induction d with
  | zero =>
    intro l s hs hl
    cases l with
    | nil => exact ⟨[], s, .nil 0 s, ⟨fun x => by rw [List.count_nil, Nat.zero_add]; exact (by rw [sum_congr (g := fun _ => 0) (fun m _ => by unfold newC; rw [if_neg (by rintro ⟨a, c⟩; rw [a] at c; cases c)]), sum_zeros]), fun m h => h, by simp, fun m h => .inl h, by simp⟩⟩
    | cons a t => have := (hl a List.mem_cons_self).2; omega
  | succ d ihd =>
    intro l
    induction l with
    | nil =>
      intro s hs hl
      exact ⟨[], s, .nil _ s, ⟨fun x => by rw [List.count_nil, Nat.zero_add]; exact (by rw [sum_congr (g := fun _ => 0) (fun m _ => by unfold newC; rw [if_neg (by rintro ⟨a, c⟩; rw [a] at c; cases c)]), sum_zeros]), fun m h => h, by simp, fun m h => .inl h, by simp⟩⟩
    | cons a t iht =>
      intro s hs hl
      obtain ⟨hUa, hra⟩ := hl a List.mem_cons_self
      obtain ⟨u1, u2, u3, u4, u5⟩ := hU a hUa
      have hlt : ∀ k ∈ t, U k = true ∧ r k < d + 1 := fun k hk => hl k (List.mem_cons_of_mem _ hk)
      have hk : kidsP get a = kidsP pg a := by unfold kidsP; rw [u3]
      cases hsa : s.getD a false with
      | true =>
        obtain ⟨ys, s', v1, v2⟩ := iht s hs hlt
        refine ⟨a :: ys, s', .seen (by omega) (by rw [u3]; exact u4) hsa v1, ⟨fun x => ?_, v2.sub, fun k hk => ?_, v2.new, fun y hy => ?_⟩⟩
        · rw [List.count_cons, List.count_cons, v2.cnt x]; omega
        · rcases List.mem_cons.1 hk with rfl | hk
          · exact v2.sub _ hsa
          · exact v2.all k hk
        · rcases List.mem_cons.1 hy with rfl | hy
          · exact hUa
          · exact v2.use y hy
      | false =>
        obtain ⟨ys1, s1, v1, v2⟩ := ihd (kidsP pg a) (s.set a true) (by simpa using hs) (fun k hk => ⟨(u5 k hk).1, by have := (u5 k hk).2; omega⟩)
        have hs1 : s1.length = N := by rw [v1.len]; simpa using hs
        obtain ⟨ys2, s2, v3, v4⟩ := iht s1 hs1 hlt
        have hsa1 : (s.set a true).getD a false = true := by rw [getD_setB, if_pos ⟨rfl, by omega⟩]
        have hs1a : s1.getD a false = true := v2.sub _ hsa1
        have hset : ∀ m, m ≠ a → (s.set a true).getD m false = s.getD m false := fun m hm => by rw [getD_setB, if_neg (fun e => hm e.1.symm)]
        refine ⟨a :: (ys1 ++ ys2), s2, .new (by omega) (by rw [u3]; exact u4) hsa (by rw [hk]; exact v1) v3, ⟨fun x => ?_, fun m hm => ?_, fun k hk => ?_, fun m hm => ?_, fun y hy => ?_⟩⟩
        · rw [List.count_cons, List.count_append, v2.cnt x, v4.cnt x, List.count_cons]
          have e1 := sum_one (f := newC N (s.set a true) s1 pg x) (g := fun m => newC N s s1 pg x m) (n := a) (N := N) (fun m hm => by unfold newC; rw [hset m hm])
          rw [if_pos u2, if_pos u2] at e1
          have e2 : newC N (s.set a true) s1 pg x a = 0 := by unfold newC; rw [if_neg (by rw [hsa1]; simp)]
          have e3 : newC N s s1 pg x a = (kidsP pg a).count x := by unfold newC; rw [if_pos ⟨hs1a, hsa⟩]
          have e4 : ((List.range N).map (newC N s s2 pg x)).sum = ((List.range N).map (newC N s s1 pg x)).sum + ((List.range N).map (newC N s1 s2 pg x)).sum := by
            rw [← sum_add]
            refine sum_congr (fun m _ => ?_)
            unfold newC
            by_cases c0 : s.getD m false = true
            · have c1 : s1.getD m false = true := by
                by_cases hma : m = a
                · subst hma; exact hs1a
                · exact v2.sub m (by rw [hset m hma]; exact c0)
              rw [c0, c1]; simp
            · have c0 : s.getD m false = false := by simpa using c0
              by_cases c1 : s1.getD m false = true
              · rw [c0, c1, v4.sub m c1]; simp
              · have c1 : s1.getD m false = false := by simpa using c1
                rw [c0, c1]; simp
          simp only [e2, e3, Nat.add_zero] at e1
          rw [e4]
          have e1' : ((List.range N).map (newC N s s1 pg x)).sum = ((List.range N).map (newC N (s.set a true) s1 pg x)).sum + (kidsP pg a).count x := e1
          omega
        · by_cases hma : m = a
          · subst hma; exact v4.sub _ hs1a
          · exact v4.sub _ (v2.sub m (by rw [hset m hma]; exact hm))
        · rcases List.mem_cons.1 hk with rfl | hk
          · exact v4.sub _ hs1a
          · exact v4.all k hk
        · rcases v4.new m hm with h1 | h1
          · rcases v2.new m h1 with h2 | h2
            · by_cases hma : m = a
              · subst hma
                exact .inr ⟨hUa, fun k hk => v4.sub _ (v2.all k hk)⟩
              · rw [hset m hma] at h2; exact .inl h2
            · exact .inr ⟨h2.1, fun k hk => v4.sub _ (h2.2 k hk)⟩
          · exact .inr h1
        · rcases List.mem_cons.1 hy with rfl | hy
          · exact hUa
          · rcases List.mem_append.1 hy with hy | hy
            · exact v2.use y hy
            · exact v4.use y hy
theorem cntL_get (N : Nat) (ys : List Nat) (h : ∀ y ∈ ys, y < N) : ∀ k, (cntL N ys).getD k 0 = if k < N then ((ys.count k : Nat) : Int) else 0 := by
  have : ∀ (ys : List Nat) (l : List Int), (∀ y ∈ ys, y < l.length) → ∀ k, k < l.length → (ys.foldl addC l).getD k 0 = l.getD k 0 + ((ys.count k : Nat) : Int) := by
    intro ys
    induction ys with
    | nil => intro l _ k _; simp
    | cons a t ih =>
      intro l hl k hk
      rw [List.foldl_cons, ih (addC l a) (fun y hy => by unfold addC; rw [List.length_set]; exact hl y (List.mem_cons_of_mem _ hy)) k (by unfold addC; rw [List.length_set]; exact hk)]
      have ha := hl a List.mem_cons_self
      rw [List.count_cons]
      unfold addC
      by_cases hak : a = k
      · subst hak
        simp [List.getD_eq_getElem?_getD, ha]
        omega
      · rw [List.getD_eq_getElem?_getD, List.getElem?_set_ne hak, ← List.getD_eq_getElem?_getD, if_neg (by simpa using hak)]
        omega
  intro k
  by_cases hk : k < N
  · rw [if_pos hk]
    have := this ys (List.replicate N 0) (by simpa using h) k (by simpa using hk)
    unfold cntL
    rw [this]
    simp [List.getD_eq_getElem?_getD, hk]
  · rw [if_neg hk, List.getD_eq_getElem?_getD, List.getElem?_eq_none (by rw [cntL_length]; omega)]
    rfl
theorem onesL_get : ∀ (ps : List Nat) (l : List Int) (k : Nat), k < l.length → (onesL l ps).getD k 0 = if k ∈ ps then 1 else l.getD k 0
  | [], l, k, _ => by simp [onesL]
  | p :: r, l, k, hk => by
    show (onesL (l.set p 1) r).getD k 0 = _
    rw [onesL_get r _ k (by rw [List.length_set]; exact hk)]
    by_cases hr : k ∈ r
    · rw [if_pos hr, if_pos (List.mem_cons_of_mem _ hr)]
    · rw [if_neg hr]
      by_cases hpk : p = k
      · subst hpk
        rw [if_pos List.mem_cons_self]
        simp [List.getD_eq_getElem?_getD, hk]
      · rw [if_neg (fun e => by rcases List.mem_cons.1 e with e | e; exact hpk e.symm; exact hr e), List.getD_eq_getElem?_getD, List.getElem?_set_ne hpk, ← List.getD_eq_getElem?_getD]
theorem onesL_length : ∀ (ps : List Nat) (l : List Int), (onesL l ps).length = l.length
  | [], l => rfl
  | p :: r, l => by show (onesL (l.set p 1) r).length = _; rw [onesL_length r]; simp
theorem length_count {N : Nat} : ∀ ys : List Nat, (∀ y ∈ ys, y < N) → ys.length = ((List.range N).map fun k => ys.count k).sum
  | [], _ => by
    simp only [List.count_nil]
    rw [sum_zeros]
    rfl
  | a :: t, h => by
    have ih := length_count t (fun y hy => h y (List.mem_cons_of_mem _ hy))
    have ha := h a List.mem_cons_self
    have e1 := sum_one (f := fun k => t.count k) (g := fun k => (a :: t).count k) (n := a) (N := N) (fun m hm => by rw [List.count_cons, if_neg (by simpa using fun e => hm e.symm)]; rfl)
    rw [if_pos ha, if_pos ha, List.count_cons_self] at e1
    rw [List.length_cons]
    omega
theorem sum_le' {f : Nat → Nat} {B : Nat} : ∀ N, (∀ m, m < N → f m ≤ B) → ((List.range N).map f).sum ≤ N * B
  | 0, _ => by simp
  | N + 1, h => by
    have := sum_le' (f := f) (B := B) N (fun m hm => h m (by omega))
    have := h N (by omega)
    simp only [List.range_succ, List.map_append, List.map_cons, List.map_nil, List.sum_append, List.sum_cons, List.sum_nil]
    rw [Nat.add_mul]
    omega
theorem audit_good {S : Spa} {R : List Nat} (h : Good S R) (hfit : ∀ n, S.now.getD n 0 < 65536) : ∃ d ys s', Vis S.get d (List.replicate S.N false) R ys s' 0 ∧ (∀ y ∈ ys, y < S.N) ∧ ys.length ≤ 1000000000 ∧ walkL S.N S.sup.pages ys = allL S.now := by
  have hN := h.dims.n
  have hnow := h.ok.now
  have hw := h.well
  obtain ⟨r, hr⟩ := hw.rank
  have hrb : ∀ n, n < S.N → r n ≤ ((List.range S.N).map r).sum := fun n hn => le_sum_mem (List.mem_map.2 ⟨n, List.mem_range.2 hn, rfl⟩)
  generalize hM : ((List.range S.N).map r).sum = M at hrb
  obtain ⟨ys, s', v1, v2⟩ := vis_ok (N := S.N) (get := S.get) (pg := S.page) (U := usedC S.sup.pages S.now) (r := r) (fun n hn => by
    have hg := h.get hn
    have hgd := hw.good n hn
    refine ⟨(usedC_iff.1 hn).1, hw.lt hn, hg.1, hg.2, fun k hk => ⟨hgd.2 k hk, hr n hn k hk⟩⟩) (M + 1) R (List.replicate S.N false) (by simp) (fun k hk => ⟨hw.root k hk, by have := hrb k (hw.lt (hw.root k hk)); omega⟩)
  have hs0 : ∀ m, (List.replicate S.N false).getD m false = false := fun m => by
    rw [List.getD_eq_getElem?_getD, List.getElem?_replicate]; split <;> rfl
  have hsu : ∀ m, s'.getD m false = true → usedC S.sup.pages S.now m = true ∧ ∀ k ∈ kidsP S.page m, s'.getD k false = true := fun m hm => by
    rcases v2.new m hm with e | e
    · rw [hs0] at e; cases e
    · exact e
  have hall : ∀ t n, usedC S.sup.pages S.now n = true → M - r n ≤ t → s'.getD n false = true := by
    intro t
    induction t with
    | zero =>
      intro n hn ht
      have hsum := hw.sum n (usedC_iff.1 hn).1 (usedC_iff.1 hn).2.1
      have hpos := (usedC_iff.1 hn).2.2
      by_cases hR : n ∈ R
      · exact v2.all n hR
      · exfalso
        have : R.count n = 0 := List.count_eq_zero.2 hR
        have hz : sumC S.N S.sup.pages S.page S.now n = 0 := by
          unfold sumC
          rw [sum_congr (g := fun _ => 0) (fun m hm => ?_)]
          · exact sum_zeros _
          · unfold refC
            split
            · rename_i hum
              refine List.count_eq_zero.2 (fun hk => ?_)
              have := hr m hum n hk
              have := hrb m hm
              omega
            · rfl
        omega
    | succ t ih =>
      intro n hn ht
      have hsum := hw.sum n (usedC_iff.1 hn).1 (usedC_iff.1 hn).2.1
      have hpos := (usedC_iff.1 hn).2.2
      by_cases hR : n ∈ R
      · exact v2.all n hR
      · have : R.count n = 0 := List.count_eq_zero.2 hR
        by_cases hex : ∃ m, usedC S.sup.pages S.now m = true ∧ n ∈ kidsP S.page m
        · obtain ⟨m, hum, hk⟩ := hex
          have h1 := hr m hum n hk
          have h2 := hrb m (hw.lt hum)
          exact (hsu m (ih m hum (by omega))).2 n hk
        · exfalso
          have hz : sumC S.N S.sup.pages S.page S.now n = 0 := by
            unfold sumC
            rw [sum_congr (g := fun _ => 0) (fun m hm => ?_)]
            · exact sum_zeros _
            · unfold refC
              split
              · rename_i hum
                exact List.count_eq_zero.2 (fun hk => hex ⟨m, hum, hk⟩)
              · rfl
          omega
  have hcnt : ∀ x, ys.count x = R.count x + sumC S.N S.sup.pages S.page S.now x := by
    intro x
    rw [v2.cnt x]
    congr 1
    unfold sumC
    refine sum_congr (fun m hm => ?_)
    unfold newC refC
    rw [hs0]
    by_cases hu : usedC S.sup.pages S.now m = true
    · rw [if_pos ⟨hall _ m hu (Nat.le_refl _), rfl⟩, if_pos hu]
    · rw [if_neg (fun e => hu (hsu m e.1).1), if_neg hu]
  have hyN : ∀ y ∈ ys, y < S.N := fun y hy => hw.lt (v2.use y hy)
  have hcn : ∀ x, ys.count x = if 2 ≤ x ∧ x ∉ S.sup.pages then S.now.getD x 0 else 0 := by
    intro x
    by_cases hx : 2 ≤ x ∧ x ∉ S.sup.pages
    · rw [if_pos hx, hcnt x, ← hw.sum x hx.1 hx.2]
    · rw [if_neg hx]
      refine List.count_eq_zero.2 (fun hy => hx ?_)
      have := usedC_iff.1 (v2.use x hy)
      exact ⟨this.1, this.2.1⟩
  refine ⟨M + 1, ys, s', v1, hyN, ?_, ?_⟩
  · rw [length_count ys hyN]
    have := sum_le' (f := fun k => ys.count k) (B := 65535) S.N (fun m _ => by
      show ys.count m ≤ _
      rw [hcn m]
      have := hfit m
      split <;> omega)
    have h2 : S.N * 65535 ≤ 4096 * 65535 := Nat.mul_le_mul_right _ hN.2
    omega
  · have hlen : (walkL S.N S.sup.pages ys).length = S.N := by
      unfold walkL
      rw [onesL_length, List.length_set, List.length_set, cntL_length]
    apply List.ext_getElem
    · rw [hlen]; simp [allL, hnow]
    · intro k h1 h2
      rw [hlen] at h1
      have e1 : (walkL S.N S.sup.pages ys).getD k 0 = ((S.now.getD k 0 : Nat) : Int) := by
        unfold walkL
        rw [onesL_get _ _ k (by rw [List.length_set, List.length_set, cntL_length]; exact h1)]
        by_cases hp : k ∈ S.sup.pages
        · rw [if_pos hp, (hw.pgs k hp).2.2]; rfl
        · rw [if_neg hp]
          have hc := cntL_get S.N ys hyN k
          rw [if_pos h1, hcn k] at hc
          by_cases hk1 : k = 1
          · subst hk1
            rw [List.getD_eq_getElem?_getD, List.getElem?_set_self (by rw [List.length_set, cntL_length]; exact h1), hw.head.2]
            rfl
          · rw [List.getD_eq_getElem?_getD, List.getElem?_set_ne (by omega)]
            by_cases hk0 : k = 0
            · subst hk0
              rw [List.getElem?_set_self (by rw [cntL_length]; exact h1), hw.head.1]
              rfl
            · rw [List.getElem?_set_ne (by omega), ← List.getD_eq_getElem?_getD, hc, if_pos ⟨by omega, hp⟩]
      rw [List.getD_eq_getElem?_getD, List.getElem?_eq_getElem (by rw [hlen]; exact h1)] at e1
      rw [show (walkL S.N S.sup.pages ys)[k] = ((S.now.getD k 0 : Nat) : Int) from e1]
      have h2' : k < S.now.length := by omega
      simp [allL, List.getD_eq_getElem?_getD, h2']
end Go.Proofs.YtcjobbcijbkjkaaGreat.V

/- Blobs: plain. -/
set_option linter.unusedVariables false
set_option linter.unusedSimpArgs false
namespace Go.Proofs.YtcjobbcijbkjkaaGreat.V
open Go Go.Proofs Go.RowKit Crc

/-- The device holds what it held, but in blocks that were free. -/
structure Kept (S S' : Spa) : Prop where
  sup : S'.sup = S.sup
  held : S'.held = S.held
  mark : S'.mark = S.mark
  slot : S'.slot = S.slot
  dim : S'.dev.size = S.dev.size ∧ S'.dev.blocks = S.dev.blocks
  read : ∀ k : Int, 0 ≤ k → k < S.N → (k.toNat < 2 ∨ S.isFree k.toNat = false) → (S'.dev.read k).1 = (S.dev.read k).1
/-! ### Several Puts -/
structure Puts (S Si : Spa) (R ks : List Nat) (ps : List Page) : Prop where
  good : Good Si (ks ++ R)
  sup : Si.sup = S.sup
  held : Si.held = S.held
  mark : Si.mark = S.mark
  slot : Si.slot = S.slot
  len : ps.length = ks.length
  free : S.freeL = ks ++ Si.freeL
  page : ∀ j, j < ks.length → Si.page (ks.getD j 0) = (ps.getD j page0, 0)
  other : ∀ k, k < S.N → k ∉ ks → Si.page k = S.page k
  now : ∀ k, Si.now.getD k 0 = if k ∈ ks then 1 else S.now.getD k 0
  nlen : Si.now.length = S.now.length
  pen : Si.dev.pen.length = S.dev.pen.length + ks.length
  read : ∀ k : Int, 0 ≤ k → k < S.N → k.toNat ∉ ks → (Si.dev.read k).1 = (S.dev.read k).1
  dim : Si.dev.size = S.dev.size ∧ Si.dev.blocks = S.dev.blocks
theorem Puts.N {S Si : Spa} {R ks : List Nat} {ps : List Page} (h : Puts S Si R ks ps) : Si.N = S.N := by unfold Spa.N; rw [h.sup]
theorem Puts.nil {S : Spa} {R : List Nat} (h : Good S R) : Puts S S R [] [] := ⟨h, rfl, rfl, rfl, rfl, rfl, rfl, fun j hj => absurd hj (Nat.not_lt_zero j), fun _ _ _ => rfl, fun _ => by simp, rfl, rfl, fun _ _ _ _ => rfl, rfl, rfl⟩
theorem Puts.mem {S Si : Spa} {R ks : List Nat} {ps : List Page} (h : Puts S Si R ks ps) {k : Nat} (hk : k ∈ ks) : 2 ≤ k ∧ k < S.N ∧ S.isFree k = true ∧ k ∉ S.sup.pages := by
  have hm : k ∈ S.freeL := by rw [h.free]; exact List.mem_append_left _ hk
  obtain ⟨h1, h2, h3⟩ := freeL_mem.1 hm
  refine ⟨h2, h1, h3, fun hp => ?_⟩
  have hpg := (h.good.well.pgs k (by rw [h.sup]; exact hp)).2.2
  have hu := h.good.well.root k (List.mem_append_left _ hk)
  have := (usedC_iff.1 hu).2.1
  rw [h.sup] at this
  exact this hp
theorem Puts.kept {S Si : Spa} {R ks : List Nat} {ps : List Page} (h : Puts S Si R ks ps) : Kept S Si :=
  ⟨h.sup, h.held, h.mark, h.slot, h.dim, fun k h0 hk hf => h.read k h0 hk (fun hm => by
    obtain ⟨a1, a2, a3, a4⟩ := h.mem hm
    rcases hf with hf | hf
    · omega
    · rw [hf] at a3; cases a3)⟩
theorem Puts.step {S Si : Spa} {R ks : List Nat} {ps : List Page} (h : Puts S Si R ks ps) {t : UInt8} {d : ByteArray} (ht : 3 ≤ t.toNat) (hd : (d.size : Int) ≤ Si.room 0) (hfree : Si.sup.pages.length < Si.freeN) :
    (Si.put (t, [], d)).2.2 = 0 ∧ Puts S (Si.put (t, [], d)).1 R (ks ++ [(Si.put (t, [], d)).2.1]) (ps ++ [(t, [], d)]) := by
  have hdim := h.good.dims
  have hsz := hdim.size
  have hr0 : Si.room 0 = Si.sup.size - 18 := by unfold Spa.room; rw [hdim.room, if_neg (by omega)]; omega
  obtain ⟨h1, h2, h3⟩ := put_good (p := (t, [], d)) (R := ks ++ R) h.good ht (by show (0 : Int) ≤ _; omega) hd hfree
  refine ⟨h1, ?_⟩
  generalize (Si.put (t, [], d)).2.1 = n at *
  generalize (Si.put (t, [], d)).1 = S' at *
  have hnk : n ∉ ks := fun hk => by
    have hf := (isFree_iff.1 h2.free).1
    rw [h.now n, if_pos hk] at hf
    cases hf
  refine ⟨h3.perm ?_, h2.sup.trans h.sup, h2.held.trans h.held, h2.mark.trans h.mark, h2.slot.trans h.slot, by simp [h.len], ?_, fun j hj => ?_, fun k hk hks => ?_, fun k => ?_, ?_, ?_, fun k h0 hk hks => ?_, h2.dim.1.trans h.dim.1, h2.dim.2.trans h.dim.2⟩
  · rw [List.append_assoc]
    exact List.perm_middle.symm
  · rw [h.free, h2.freeL, List.append_assoc, List.singleton_append]
  · rw [List.length_append, List.length_singleton] at hj
    by_cases hjl : j < ks.length
    · rw [show (ks ++ [n]).getD j 0 = ks.getD j 0 by rw [List.getD_eq_getElem?_getD, List.getElem?_append_left hjl, ← List.getD_eq_getElem?_getD], show (ps ++ [((t, [], d) : Page)] : List Page).getD j page0 = ps.getD j page0 by rw [List.getD_eq_getElem?_getD, List.getElem?_append_left (by rw [h.len]; exact hjl), ← List.getD_eq_getElem?_getD]]
      have hmem : ks.getD j 0 ∈ ks := by rw [List.getD_eq_getElem?_getD, List.getElem?_eq_getElem hjl]; exact List.getElem_mem hjl
      rw [h2.other _ (fun e => hnk (e ▸ hmem)) (by rw [h.N]; exact (h.mem hmem).2.1), h.page j hjl]
    · obtain rfl : j = ks.length := by omega
      rw [show (ks ++ [n]).getD ks.length 0 = n by simp, show (ps ++ [((t, [], d) : Page)] : List Page).getD ks.length page0 = (t, [], d) by rw [← h.len]; simp]
      exact h2.page
  · simp only [List.mem_append, List.mem_singleton, not_or] at hks
    rw [h2.other k hks.2 (by rw [h.N]; exact hk), h.other k hk hks.1]
  · rw [h2.now, getD_setN, h.now k]
    have hnl : n < Si.now.length := by have := h2.lt; rw [h.good.ok.now]; exact this
    by_cases hkn : n = k
    · subst hkn
      rw [if_pos ⟨rfl, hnl⟩, if_pos (by simp)]
    · rw [if_neg (fun e => hkn e.1)]
      by_cases hk : k ∈ ks
      · rw [if_pos hk, if_pos (List.mem_append_left _ hk)]
      · rw [if_neg hk, if_neg (fun e => by rcases List.mem_append.1 e with e | e; exact hk e; exact hkn (List.mem_singleton.1 e).symm)]
  · rw [h2.now, List.length_set]; exact h.nlen
  · rw [h2.pen, h.pen, List.length_append, List.length_singleton]; omega
  · simp only [List.mem_append, List.mem_singleton, not_or] at hks
    rw [h2.read k h0 (by rw [h.N]; exact hk) (by omega), h.read k h0 hk hks.1]
theorem put_full {S : Spa} {R : List Nat} {p : Page} (h : Good S (p.2.1 ++ R)) (ht : 3 ≤ p.1.toNat) (hk : (p.2.1.length : Int) ≤ S.room 0 / 4) (hd : (p.2.2.size : Int) ≤ S.room p.2.1.length) (hfree : S.freeN ≤ S.sup.pages.length) : S.put p = (S, 0, 9) := by
  have hdim := h.dims
  have hsz := hdim.size
  have hr0 : S.room 0 = S.sup.size - 18 := by unfold Spa.room; rw [hdim.room, if_neg (by omega)]; omega
  have hku : ∀ k ∈ p.2.1, usedC S.sup.pages S.now k = true := fun k hk => h.well.root k (List.mem_append_left _ hk)
  have hE0 : S.putE p = 9 := by
    unfold Spa.putE
    rw [if_neg, if_neg, if_neg, if_pos hfree]
    · rintro (e | e) <;> omega
    · rintro ⟨k, hk, e⟩
      exact (used_asked h (hku k hk)).2.1 e
    · rintro (e | e | ⟨k, hk, e⟩)
      · omega
      · omega
      · rw [(used_asked h (hku k hk)).1] at e; cases e
  unfold Spa.put
  rw [if_pos (by rw [hE0]; simp), hE0]
/-! ### What was put on the way goes back -/
inductive Drps (ask : Nat → Bool) (pg : PgF) : List Nat → List Nat → List Nat → Prop
  | nil (c : List Nat) : Drps ask pg c [] c
  | cons {c c1 c' ks : List Nat} {k : Nat} {e : Int} : (ask k = true → Drp ask pg c [k] c1 e) → (ask k = false → c1 = c ∧ e = 2) → Drps ask pg c1 ks c' → Drps ask pg c (k :: ks) c'
theorem drps_leaves {ask : Nat → Bool} {pg : PgF} : ∀ (ks c : List Nat), ks.Nodup → (∀ k ∈ ks, ask k = true ∧ 2 ≤ k ∧ k < c.length ∧ c.getD k 0 = 1 ∧ (pg k).2 = 0 ∧ kidsP pg k = []) → ∃ c', Drps ask pg c ks c' ∧ c'.length = c.length ∧ ∀ k, c'.getD k 0 = if k ∈ ks then 0 else c.getD k 0
  | [], c, _, _ => ⟨c, .nil c, rfl, fun k => by simp⟩
  | a :: t, c, hnd, h => by
    obtain ⟨h1, h2, h3, h4, h5, h6⟩ := h a List.mem_cons_self
    obtain ⟨hat, hnd⟩ := List.nodup_cons.1 hnd
    have ea : atE c a = 0 := by unfold atE; rw [if_neg (by omega), if_neg (by omega)]
    have es : subL c a = c.set a 0 := by unfold subL; rw [if_pos ea, h4]
    obtain ⟨c', g1, g2, g3⟩ := drps_leaves t (c.set a 0) hnd (fun k hk => by
      obtain ⟨k1, k2, k3, k4, k5, k6⟩ := h k (List.mem_cons_of_mem _ hk)
      refine ⟨k1, k2, by rw [List.length_set]; exact k3, ?_, k5, k6⟩
      rw [getD_setN, if_neg (show ¬ (a = k ∧ k < c.length) from fun e => hat (e.1 ▸ hk))]
      exact k4)
    refine ⟨c', .cons (c1 := c.set a 0) (e := 0) (fun _ => .last h4 h1 h5 (by rw [h6, es]; exact .nil _)) (fun e => by rw [h1] at e; cases e) g1, by rw [g2, List.length_set], fun k => ?_⟩
    rw [g3 k, getD_setN]
    by_cases hk : k ∈ t
    · rw [if_pos hk, if_pos (List.mem_cons_of_mem _ hk)]
    · rw [if_neg hk]
      by_cases hak : a = k
      · subst hak
        rw [if_pos ⟨rfl, h3⟩, if_pos List.mem_cons_self]
      · rw [if_neg (fun e => hak e.1), if_neg (fun e => by rcases List.mem_cons.1 e with e | e; exact hak e.symm; exact hk e)]
theorem freeL_nodup (S : Spa) : S.freeL.Nodup := by
  unfold Spa.freeL
  exact List.Pairwise.filter _ List.nodup_range
theorem Puts.undo {S Si : Spa} {R ks : List Nat} {ps : List Page} (h : Puts S Si R ks ps) (h0 : Good S R) (hp : ∀ j, j < ks.length → (ps.getD j page0).2.1 = []) :
    ∃ c', Drps Si.asked Si.page Si.now ks c' ∧ c' = S.now ∧ Good { Si with now := c' } R := by
  have hnd : ks.Nodup := by
    have := freeL_nodup S
    rw [h.free] at this
    exact (List.nodup_append.1 this).1
  have hkl : ∀ k ∈ ks, ∃ j, j < ks.length ∧ ks.getD j 0 = k := fun k hk => by
    obtain ⟨j, hj, e⟩ := List.mem_iff_getElem.1 hk
    exact ⟨j, hj, by rw [List.getD_eq_getElem?_getD, List.getElem?_eq_getElem hj]; exact e⟩
  obtain ⟨c', g1, g2, g3⟩ := drps_leaves (ask := Si.asked) (pg := Si.page) ks Si.now hnd (fun k hk => by
    obtain ⟨m1, m2, m3, m4⟩ := h.mem hk
    obtain ⟨j, hj, e⟩ := hkl k hk
    have hpj := h.page j hj
    rw [e] at hpj
    refine ⟨asked_iff.2 ⟨m1, by rw [h.N]; exact m2, by rw [h.sup]; exact m4⟩, m1, by rw [h.good.ok.now, h.N]; exact m2, by rw [h.now k, if_pos hk], by rw [hpj], by unfold kidsP; rw [hpj]; exact hp j hj⟩)
  have ec : c' = S.now := by
    refine list_ext_getD (by rw [g2, h.nlen]) (fun k => ?_)
    rw [g3 k, h.now k]
    by_cases hk : k ∈ ks
    · rw [if_pos hk]
      have := (isFree_iff.1 (h.mem hk).2.2.1).1
      omega
    · rw [if_neg hk, if_neg hk]
  refine ⟨c', g1, ec, ?_⟩
  rw [ec]
  refine h.good.setNow (by rw [h.nlen]) ?_
  rw [h.N, h.sup]
  refine h0.well.pgs_eq (fun m hm => ?_)
  refine h.other m (h0.well.lt hm) (fun hk => ?_)
  have := (isFree_iff.1 (h.mem hk).2.2.1).1
  have := (usedC_iff.1 hm).2.2
  omega
/-! ### A blob's pages -/
def nparts (r len : Nat) : Nat := (len + r - 1) / r
def part (r : Nat) (b : ByteArray) (i : Nat) : ByteArray := b.extract (i * r) (min b.size ((i + 1) * r))
def dataP (r : Nat) (b : ByteArray) (n : Nat) : List Page := (List.range n).map fun i => ((7 : UInt8), [], part r b i)
theorem dataP_succ (r : Nat) (b : ByteArray) (n : Nat) : dataP r b (n + 1) = dataP r b n ++ [((7 : UInt8), [], part r b n)] := by simp [dataP, List.range_succ]
theorem nparts_lt {r len i : Nat} (hr : 1 ≤ r) : i < nparts r len ↔ i * r < len := cutsN_lt hr
theorem part_size {r : Nat} {b : ByteArray} {i : Nat} (hr : 1 ≤ r) (h : i < nparts r b.size) : (part r b i).size = min r (b.size - i * r) ∧ 1 ≤ (part r b i).size := by
  have := (nparts_lt hr).1 h
  unfold part
  rw [ByteArray.size_extract]
  have e : (i + 1) * r = i * r + r := by rw [Nat.add_mul, Nat.one_mul]
  rw [e]
  omega
theorem parts_flat {r : Nat} (hr : 1 ≤ r) (b : ByteArray) : ∀ n, n ≤ nparts r b.size → ((List.range n).flatMap fun i => B (part r b i)) = (B b).take (n * r)
  | 0, _ => by simp
  | n + 1, h => by
    have ih := parts_flat hr b n (by omega)
    rw [List.range_succ, List.flatMap_append, ih]
    have hlt := (nparts_lt (r := r) (len := b.size) (i := n) hr).1 (by omega)
    have e : (n + 1) * r = n * r + r := by rw [Nat.add_mul, Nat.one_mul]
    simp only [List.flatMap_cons, List.flatMap_nil, List.append_nil]
    unfold part
    rw [B_extract, e, List.take_add]
    congr 1
    have hl : (B b).length = b.size := (B_size b).symm
    rcases Nat.le_total b.size (n * r + r) with hh | hh
    · rw [Nat.min_eq_left hh, List.take_of_length_le (by rw [List.length_drop]; omega), List.take_of_length_le (by rw [List.length_drop]; omega)]
    · rw [Nat.min_eq_right hh, show n * r + r - n * r = r by omega]
def Spa.r0 (S : Spa) : Nat := (S.room 0).toNat
def mostB (r : Nat) : Nat := min 65536 ((r - 4) / 4 * r)
/-- A blob, by its pages. -/
structure Blob (S : Spa) (n : Nat) (b : ByteArray) (ks : List Nat) : Prop where
  idx : S.get n = (((6 : UInt8), ks, mkB (le 4 b.size)), 0)
  len : ks.length = nparts S.r0 b.size
  data : ∀ i, i < ks.length → S.get (ks.getD i 0) = (((7 : UInt8), [], part S.r0 b i), 0)
  most : b.size ≤ mostB S.r0
end Go.Proofs.YtcjobbcijbkjkaaGreat.V

/- Contracts of the package blob: Most, Put. -/
set_option linter.unusedVariables false
set_option linter.unusedSimpArgs false
namespace Go.Proofs.YtcjobbcijbkjkaaGreat.V
open Go Go.Proofs Go.RowKit Crc

variable {w w' : World} {b db : Nat} {S : Spa} {F Fd : Nat → Prop} {x : SLC} {hb hr nb nr : Nat} {m : MkL}
theorem r0_spec {S : Spa} (h : SpDims S) : S.room 0 = (S.r0 : Int) ∧ 110 ≤ S.r0 ∧ S.r0 ≤ 4078 ∧ S.sup.size = (S.r0 : Int) + 18 := by
  have hsz := h.size
  have hr0 : S.room 0 = S.sup.size - 18 := by unfold Spa.room; rw [h.room, if_neg (by omega)]; omega
  unfold Spa.r0
  omega
theorem most_calls (h : SpM w b db S F Fd x hb hr nb nr m) :
    Calls Tryz.prog 15 #[.pointer (some ⟨b, 0, none⟩)] w (Ret fun v w' => v = .int .i64 (mostB S.r0 : Int) ∧ Ext w w') := by
  obtain ⟨h0, h1, h2, h3⟩ := r0_spec h.dims
  apply calls15
  unfold S15
  refine callW_of (roomC_calls h (k := 0) (by omega) (by omega)) ?_
  rintro _ w1 ⟨rfl, he⟩
  refine ⟨_, rfl, ?_, he⟩
  rw [h0]
  have e1 : IntKind.wrap .i64 ((S.r0 : Int) - 4) = ((S.r0 - 4 : Nat) : Int) := by rw [wrap_i64 (by omega) (by omega)]; omega
  have e2 : IntKind.wrap .i64 (Int.tdiv ((S.r0 - 4 : Nat) : Int) 4) = (((S.r0 - 4) / 4 : Nat) : Int) := by
    rw [show Int.tdiv ((S.r0 - 4 : Nat) : Int) 4 = (((S.r0 - 4) / 4 : Nat) : Int) from rfl, wrap_i64 (by omega) (by omega)]
  have hm : (S.r0 - 4) / 4 * S.r0 ≤ 1019 * 4078 := Nat.mul_le_mul (by omega) h2
  have hm1 : 26 * 110 ≤ (S.r0 - 4) / 4 * S.r0 := Nat.mul_le_mul (by omega) h1
  have e3 : IntKind.wrap .i64 ((((S.r0 - 4) / 4 : Nat) : Int) * (S.r0 : Int)) = (((S.r0 - 4) / 4 * S.r0 : Nat) : Int) := by
    rw [← Int.natCast_mul, wrap_i64 (by omega) (by omega)]
  rw [e1, e2, e3]
  unfold mostB
  generalize (S.r0 - 4) / 4 * S.r0 = M at *
  refine congrArg (Value.int .i64) ?_
  by_cases hM : M < 65536
  · rw [if_pos (show (M : Int) < 65536 by omega), if_pos (show (M : Int) > 0 by omega)]; omega
  · rw [if_neg (show ¬ (M : Int) < 65536 by omega), if_pos (by decide)]; omega
theorem SpM.toAt (h : SpM w b db S F Fd x hb hr nb nr m) : SpAt w b db S F := ⟨Fd, x, hb, hr, nb, nr, m, h⟩
/-- What was put on the way is dropped again, where there is an error. -/
theorem putd_calls {r1 r2 r8 n c : Nat} {A : Option Addr} {ks c' : List Nat} {e : Int} (h : SpM w b db S F Fd x hb hr nb nr m) (h1 : Blk w r1 [.pointer (some ⟨b, 0, none⟩)] 24) (h2 : Blk w r2 [.int .i64 e] 31) (h8 : Blk w r8 [.slice A n c] 39)
    (hs : Sli (numE .u32) w A n ks) (h32 : ∀ k ∈ ks, k < 4294967296) (hf1 : ¬ F r1) (hf2 : ¬ F r2) (hA : ∀ a, A = some a → ¬ F a.block) (hD : e ≠ 0 → Drps S.asked S.page S.now ks c') :
    DCalls Tryz.prog 31 [.pointer (some ⟨r2, 0, none⟩), .pointer (some ⟨r8, 0, none⟩), .pointer (some ⟨r1, 0, none⟩)] w fun _ w' => SpM w' b db { S with now := if e = 0 then S.now else c' } F Fd x hb hr nb nr m ∧ Only F w w' ∧ Blk w' r2 [.int .i64 e] 31 := by
  apply callsD31
  unfold S31
  refine ldW_blk (x := e) h2 (by rfl) ?_
  refine splitW_i (fun hq => ?_) (fun hq => ?_)
  · have hq := bne_iff_ne.1 hq
    rw [if_neg hq]
    have hD := hD hq
    refine ldW_blk (l := .slc) (x := (A, n, c)) h8 (by rfl) ?_
    dsimp only
    have hl := hs.len
    have hle := hs.le
    refine loopW_i (fun y w' => ∃ (i : Nat) (cc : List Nat), i ≤ n ∧ y = ((i : Int), ()) ∧ SpM w' b db { S with now := cc } F Fd x hb hr nb nr m ∧ Only F w w' ∧ Drps S.asked S.page cc (ks.drop i) c') (fun y => (n - y.1).toNat) ⟨0, S.now, by omega, rfl, h, Only.refl F w, hD⟩ ?_
    rintro _ w1 ⟨i, cc, hi, rfl, hS, hO, hDi⟩
    dsimp only
    by_cases hlt : i < n
    · refine splitW_t (decide_eq_true (by omega)) ?_
      refine idx_num (hs.only hO hA) (by omega) (by omega) ?_
      rw [Int.toNat_natCast]
      have eg : ks[i]? = some (ks.getD i 0) := by rw [List.getD_eq_getElem?_getD, List.getElem?_eq_getElem (by omega)]; rfl
      have hk32 := h32 _ (List.mem_of_getElem? eg)
      have edrop : ks.drop i = ks.getD i 0 :: ks.drop (i + 1) := by
        obtain ⟨q1, q2⟩ := List.getElem?_eq_some_iff.1 eg
        rw [List.drop_eq_getElem_cons q1, q2]
      rw [edrop] at hDi
      refine ldW_blk (x := some ⟨b, 0, none⟩) (h1.only hO hf1) (by rfl) ?_
      generalize ks.getD i 0 = k at *
      cases hDi with
      | @cons _ c1 _ _ _ e1 d1 d2 d3 =>
      refine callW_of (drop_calls hS hk32 (c' := c1) (e := e1) d1 d2) ?_
      rintro _ w2 ⟨rfl, hS2, hO2⟩
      refine ⟨_, rfl, ?_⟩
      refine ⟨⟨i + 1, c1, by omega, by rw [wrap_i64 (by omega) (by omega)]; rfl, hS2, Only.trans hO hO2 (fun j hj => .inl hj), d3⟩, by rw [wrap_i64 (by omega) (by omega)]; omega⟩
    · obtain rfl : i = n := by omega
      refine splitW_f (decide_eq_false (by omega)) ?_
      rw [List.drop_of_length_le (by omega)] at hDi
      cases hDi
      exact ⟨hS, hO, h2.only hO hf2⟩
  · have hq := bne_eq_false_iff_eq.1 hq
    rw [if_pos hq]
    exact ⟨h, Only.refl F w, h2⟩
/-- What Put of a blob comes to. -/
def BPost (w : World) (b db : Nat) (F : Nat → Prop) (S : Spa) (R : List Nat) (bs : ByteArray) (v : Value) (w' : World) : Prop :=
  (mostB S.r0 < bs.size ∧ v = .tuple #[.int .u32 0, .int .i64 3] ∧ StepS w b db F S w') ∨
  (bs.size ≤ mostB S.r0 ∧ S.sup.pages.length + nparts S.r0 bs.size + 1 ≤ S.freeN ∧ ∃ (S1 S2 : Spa) (ks : List Nat) (n : Nat), Puts S S1 R ks (dataP S.r0 bs (nparts S.r0 bs.size)) ∧ PutOk S1 S2 ((6 : UInt8), ks, mkB (le 4 bs.size)) n ∧ Good S2 (n :: R) ∧ v = .tuple #[.int .u32 (n : Int), .int .i64 0] ∧ StepS w b db F S2 w') ∨
  (bs.size ≤ mostB S.r0 ∧ S.freeN < S.sup.pages.length + nparts S.r0 bs.size + 1 ∧ ∃ (S1 : Spa) (ks : List Nat) (ps : List Page), Puts S S1 R ks ps ∧ Good { S1 with now := S.now } R ∧ v = .tuple #[.int .u32 0, .int .i64 9] ∧ StepS w b db F { S1 with now := S.now } w')
theorem nparts_le {r len : Nat} (h1 : 110 ≤ r) (hm : len ≤ mostB r) : 4 * nparts r len + 4 ≤ r ∧ nparts r len ≤ 65536 := by
  unfold mostB at hm
  have h2 : len ≤ (r - 4) / 4 * r := by omega
  have h3 : nparts r len ≤ (r - 4) / 4 := by
    unfold nparts
    rw [Nat.div_le_iff_le_mul_add_pred (by omega)]
    rw [Nat.mul_comm r]
    omega
  have h4 : nparts r len ≤ len := by
    unfold nparts
    rw [Nat.div_le_iff_le_mul_add_pred (by omega)]
    have : len ≤ r * len := Nat.le_mul_of_pos_left _ (by omega)
    omega
  omega
theorem bput_calls {R : List Nat} (h : SpM w b db S F Fd x hb hr nb nr m) (hg : Good S R) (hpen : S.dev.pen.length ≤ 900000) (bs : ByteArray) (hbs : bs.size ≤ 1000000000) :
    Calls Tryz.prog 10 #[.pointer (some ⟨b, 0, none⟩), .string bs] w (Ret (BPost w b db F S R bs)) := by
  obtain ⟨q0, q1, q2, q3⟩ := r0_spec h.dims
  have hFlt := h.lt
  apply calls10
  unfold S10
  refine new_i fun r1 w1 hb1 he1 hr1 hz1 => ?_
  refine new_i fun r2 w2 hb2 he2 hr2 hz2 => ?_
  have hb1 := hb1.ext he2
  have he := he1.trans he2
  refine ldW_blk (x := some ⟨b, 0, none⟩) hb1 (by rfl) (splitW_f (by rfl) ?_)
  refine ldW_blk (x := some ⟨b, 0, none⟩) hb1 (by rfl) ?_
  refine callW_of (most_calls (h.ext he)) ?_
  rintro _ w3 ⟨rfl, he3⟩
  refine ⟨_, rfl, ?_⟩
  have hb1 := hb1.ext he3
  have hb2 := hb2.ext he3
  have he3' := he.trans he3
  have hs1 := he1.size
  refine splitW_i (fun hq => ?_) (fun hq => ?_)
  · have hq := of_decide_eq_true hq
    refine stW_blk hb2 (by show 0 < 1; omega) ?_
    refine ldW_blk (x := (3 : Int)) (hb2.set 0 (.int .i64 3)) (by rfl) ?_
    exact .inl ⟨by omega, rfl, StepS.ext h.toAt (he3'.set (p := ⟨r2, 0, none⟩) (by show w.heap.size ≤ r2; omega) _)⟩
  have hmost : bs.size ≤ mostB S.r0 := by have := of_decide_eq_false hq; omega
  obtain ⟨hn1, hn2⟩ := nparts_le q1 hmost
  refine new_i fun r8 w4 hb8 he4 hr8 hz8 => ?_
  have hb1 := hb1.ext he4
  have hb2 := hb2.ext he4
  have he4' := he3'.trans he4
  refine ldW_blk (x := some ⟨b, 0, none⟩) hb1 (by rfl) ?_
  refine callW_of (roomC_calls (h.ext he4') (k := 0) (by omega) (by omega)) ?_
  rintro _ w5 ⟨rfl, he5⟩
  refine ⟨_, rfl, ?_⟩
  rw [q0]
  refine guard_i (by omega) ?_
  have hb1 := hb1.ext he5
  have hb2 := hb2.ext he5
  have hb8 := hb8.ext he5
  have he5' := he4'.trans he5
  have hr1l := hb1.lt
  have hr2l := hb2.lt
  have hr8l := hb8.lt
  have hs3 := he3.size
  generalize hm : nparts S.r0 bs.size = M at *
  have eM : IntKind.wrap .i64 (Int.tdiv (IntKind.wrap .i64 (IntKind.wrap .i64 (((bs.size : Nat) : Int) + (S.r0 : Int)) - 1)) (S.r0 : Int)) = (M : Int) := by
    rw [wrap_i64 (x := ((bs.size : Nat) : Int) + (S.r0 : Int)) (by omega) (by omega), wrap_i64 (x := ((bs.size : Nat) : Int) + (S.r0 : Int) - 1) (by omega) (by omega)]
    rw [show ((bs.size : Nat) : Int) + (S.r0 : Int) - 1 = ((bs.size + S.r0 - 1 : Nat) : Int) by omega, show Int.tdiv ((bs.size + S.r0 - 1 : Nat) : Int) (S.r0 : Int) = (((bs.size + S.r0 - 1) / S.r0 : Nat) : Int) from rfl]
    have : (bs.size + S.r0 - 1) / S.r0 = M := hm
    rw [this, wrap_i64 (by omega) (by omega)]
  rw [eM]
  have hnF : ∀ j, w.heap.size ≤ j → ¬ F j := fun j hj hf => by have := hFlt j hf; omega
  -- the end, with an error: what was put goes back
  have fail : ∀ {S1 : Spa} {ks : List Nat} {F' : Nat → Prop} {w9 : World} {A : Option Addr} {c : Nat} (i : Nat), i = ks.length → Puts S S1 R ks (dataP S.r0 bs i) → SpAt w9 b db S1 F' → (∀ k, F' k → F k ∨ w5.heap.size ≤ k) → Only F w w9 → S.freeN < S.sup.pages.length + M + 1 →
      Blk w9 r1 [.pointer (some ⟨b, 0, none⟩)] 24 → Blk w9 r2 [.int .i64 0] 31 → Blk w9 r8 [.slice A i c] 39 → Sli (numE .u32) w9 A i ks → (∀ a, A = some a → w.heap.size ≤ a.block ∧ a.block ≠ r1 ∧ a.block ≠ r2 ∧ a.block ≠ r8 ∧ ¬ F' a.block) →
      stW ⟨r2, 0, none⟩ (.int .i64 9) (leaveW Tryz.prog (⟨.fn (.func 31) #[.pointer (some ⟨r2, 0, none⟩), .pointer (some ⟨r8, 0, none⟩), .pointer (some ⟨r1, 0, none⟩)], #[]⟩ :: []) (ldW (.int .i64) ⟨r2, 0, none⟩ fun u => BPost w b db F S R bs (.tuple #[.int .u32 0, .int .i64 u]))) w9 := by
    rintro S1 ks F' w9 A c i rfl hP ⟨Fd', x', hb', hr', nb', nr', m', hS1⟩ hF' hO hfull k1 k2 k8 hs hA
    refine stW_blk k2 (by show 0 < 1; omega) ?_
    have hg9 := set_grown w9 r2 0 (.int .i64 9)
    have oc : Only (fun k => k = r2) w9 (w9.setCell ⟨r2, 0, none⟩ (.int .i64 9)) := Only.of_grown hg9 (fun j hj => .inl (by injection hj with hj; exact hj.symm))
    have k2' := k2.set 0 (.int .i64 9)
    have hF5 : ∀ j, w.heap.size ≤ j → j < w5.heap.size → ¬ F' j := fun j a1 a2 hf => by
      rcases hF' j hf with e | e
      · exact hnF j a1 e
      · omega
    have hS1' := hS1.only oc (fun j hj e => hF5 r2 (by omega) (by omega) (by rw [← show j = r2 from e]; exact hj))
    obtain ⟨c', u1, u2, u3⟩ := hP.undo hg (fun j hj => by
      unfold dataP
      simp [List.getD_eq_getElem?_getD, hj])
    have h32 : ∀ k ∈ ks, k < 4294967296 := fun k hk => by have := (hP.mem hk).2.1; have := h.dims.n; omega
    refine .inr ⟨_, _, rfl, by kernel_rfl, ?_⟩
    refine CallsDIn.mono (putd_calls (c' := c') hS1' (k1.only oc (by show ¬ r1 = r2; omega)) k2' (k8.only oc (by show ¬ r8 = r2; omega)) (hs.only oc (fun a ha e => (hA a ha).2.2.1 e)) h32 (hF5 r1 (by omega) (by omega)) (hF5 r2 (by omega) (by omega)) (fun a ha => (hA a ha).2.2.2.2) (fun _ => u1)) ?_
    rintro e u' w10 ⟨hu, hR⟩
    refine ⟨hu, ?_⟩
    cases e with
    | returned v =>
      obtain ⟨p1, p2, p3⟩ := hR
      refine ldW_blk (x := (9 : Int)) p3 (by rfl) (.inr (.inr ⟨hmost, by rw [hm]; omega, S1, ks, _, hP, by rw [← u2]; exact u3, rfl, F', ?_, fun k hk => ?_, ?_⟩))
      · rw [if_neg (by decide), u2] at p1
        exact p1.toAt
      · rcases hF' k hk with e | e
        · exact .inl e
        · exact .inr (Nat.le_trans he5'.size e)
      · have o9 : Only F w (w9.setCell ⟨r2, 0, none⟩ (.int .i64 9)) := Only.trans hO oc (fun j hj => .inr (by have : j = r2 := hj; omega))
        exact Only.trans o9 p2 (fun j hj => by
          rcases hF' j hj with e | e
          · exact .inl e
          · exact .inr (Nat.le_trans he5'.size e))
    | panicked c => exact hR.elim
    | outgrown => exact hR.elim
  refine loopW_i (fun y w' => ∃ (i : Nat) (Si : Spa) (ks : List Nat) (F' : Nat → Prop) (A : Option Addr) (c : Nat), i ≤ M ∧ i = ks.length ∧ y = ((i : Int), ()) ∧ Puts S Si R ks (dataP S.r0 bs i) ∧ SpAt w' b db Si F' ∧ (∀ k, F' k → F k ∨ w5.heap.size ≤ k) ∧ Only F w w' ∧ w5.heap.size ≤ w'.heap.size ∧
      Blk w' r1 [.pointer (some ⟨b, 0, none⟩)] 24 ∧ Blk w' r2 [.int .i64 0] 31 ∧ Blk w' r8 [.slice A i c] 39 ∧ Owni (numE .u32) 30 w' w5.heap.size A i c ks ∧ (∀ j, orow A = some j → ¬ F' j)) (fun y => (M - y.1).toNat)
    ⟨0, S, [], F, none, 0, by omega, rfl, rfl, Puts.nil hg, (h.ext he5').toAt, fun k hk => .inl hk, Only.of_ext he5', Nat.le_refl _, hb1, hb2, hb8, Owni.nil _ _ _, fun j hj => by cases hj⟩ ?_
  rintro _ w6 ⟨i, Si, ks, F', A, c, hi, hik, rfl, hP, hAt, hF', hO, hsz, k1, k2, k8, ho, hAF⟩
  dsimp only
  have hF5 : ∀ j, w.heap.size ≤ j → j < w5.heap.size → ¬ F' j := fun j a1 a2 hf => by
    rcases hF' j hf with e | e
    · exact hnF j a1 e
    · omega
  have hF'w : ∀ k, F' k → F k ∨ w.heap.size ≤ k := fun k hk => by
    rcases hF' k hk with e | e
    · exact .inl e
    · exact .inr (Nat.le_trans he5'.size e)
  have hrow : ∀ a, A = some a → w5.heap.size ≤ a.block := fun a ha => ho.row _ (by rw [ha]; rfl)
  have hAok : ∀ a, A = some a → w.heap.size ≤ a.block ∧ a.block ≠ r1 ∧ a.block ≠ r2 ∧ a.block ≠ r8 ∧ ¬ F' a.block := fun a ha => by
    have := hrow a ha
    exact ⟨by omega, by omega, by omega, by omega, hAF _ (by rw [ha]; rfl)⟩
  have hfr : S.freeN = ks.length + Si.freeN := by
    unfold Spa.freeN
    rw [hP.free, List.length_append]
  have hr0i : Si.r0 = S.r0 ∧ Si.room 0 = (S.r0 : Int) ∧ ∀ k, Si.room k = S.room k := by
    have : ∀ k, Si.room k = S.room k := fun k => by unfold Spa.room; rw [hP.sup]
    refine ⟨by unfold Spa.r0; rw [this], by rw [this]; exact q0, this⟩
  have hpeni : Si.dev.pen.length ≤ 1000000 := by rw [hP.pen]; omega
  have hgeni : Si.sup.gen + 1 < 18446744073709551616 := by have := hP.good.gen; omega
  have hpgi : Si.sup.pages.length = S.sup.pages.length := by rw [hP.sup]
  by_cases hlt : i < M
  · refine splitW_t (decide_eq_true (by omega)) ?_
    refine draw_i fun w7 he7 _ _ => ?_
    have hoi7 := ho.ext he7
    have hAt7 := hAt.ext he7
    have o7 : Only F w w7 := Only.trans hO (Only.of_ext (F := F) he7) (fun j hj => .inl hj)
    refine ldW_blk (x := some ⟨b, 0, none⟩) (k1.ext he7) (by rfl) ?_
    have hilt : i * S.r0 < bs.size := (nparts_lt (by omega)).1 (by rw [hm]; exact hlt)
    have hsucc : (i + 1) * S.r0 = i * S.r0 + S.r0 := by rw [Nat.add_mul, Nat.one_mul]
    have w1' : IntKind.wrap .i64 ((i : Int) * (S.r0 : Int)) = ((i * S.r0 : Nat) : Int) := by rw [← Int.natCast_mul, wrap_i64 (by omega) (by omega)]
    have w2' : IntKind.wrap .i64 ((i : Int) + 1) = ((i + 1 : Nat) : Int) := by rw [wrap_i64 (by omega) (by omega)]; rfl
    have w3' : IntKind.wrap .i64 (((i + 1 : Nat) : Int) * (S.r0 : Int)) = (((i + 1) * S.r0 : Nat) : Int) := by rw [← Int.natCast_mul, wrap_i64 (by omega) (by omega)]
    have w4' : (if (((i + 1) * S.r0 : Nat) : Int) < ((bs.size : Nat) : Int) then (((i + 1) * S.r0 : Nat) : Int) else ((bs.size : Nat) : Int)) = ((min bs.size ((i + 1) * S.r0) : Nat) : Int) := by split <;> omega
    rw [w1', w2', w3', w4']
    refine guard_i ⟨by omega, by omega, by omega⟩ ?_
    rw [Int.toNat_natCast, Int.toNat_natCast]
    show callW _ _ [_, .agg (pgV ((7 : UInt8), [], part S.r0 bs i) (none, 0, 0)).toArray] _ _ w7
    obtain ⟨Fd7, x7, hb7, hr7, nb7, nr7, m7, hS7⟩ := hAt7
    have hps := part_size (r := S.r0) (b := bs) (i := i) (by omega) (by rw [hm]; exact hlt)
    refine callW_of (putS_calls hS7 hP.good.h01 hgeni hpeni ((7 : UInt8), [], part S.r0 bs i) (Sli.nil w7 none) (by simp) (fun a ha => by cases ha) (by show (part S.r0 bs i).size ≤ _; omega)) ?_
    rintro _ w8 ⟨rfl, F8, hAt8, hF8, hO8⟩
    have hF8w : ∀ k, F8 k → F k ∨ w5.heap.size ≤ k := fun k hk => by
      rcases hF8 k hk with e | e
      · exact hF' k e
      · exact .inr (by have := he7.size; omega)
    have o8 : Only F w w8 := Only.trans o7 hO8 hF'w
    have k18 := (k1.ext he7).only hO8 (hF5 r1 (by omega) (by omega))
    have k28 := (k2.ext he7).only hO8 (hF5 r2 (by omega) (by omega))
    have k88 := (k8.ext he7).only hO8 (hF5 r8 (by omega) (by omega))
    have ho8 := hoi7.only hO8 hAF
    have hAF8 : ∀ j, orow A = some j → ¬ F8 j := fun j hj hf => by
      rcases hF8 j hf with e | e
      · exact hAF j hj e
      · have := hoi7.row_lt j hj; omega
    have hs8 := hO8.2.2.2.1
    have hs7 := he7.size
    by_cases hfree : Si.sup.pages.length < Si.freeN
    · obtain ⟨s1, s2⟩ := hP.step (t := 7) (d := part S.r0 bs i) (by decide) (by rw [hr0i.2.1]; omega) hfree
      refine ⟨(((Si.put ((7 : UInt8), [], part S.r0 bs i)).2.1 : Int), (Si.put ((7 : UInt8), [], part S.r0 bs i)).2.2, ()), rfl, ?_⟩
      rw [s1]
      refine splitW_f (by rfl) ?_
      generalize (Si.put ((7 : UInt8), [], part S.r0 bs i)).2.1 = n at *
      refine ldW_blk (l := .slc) (x := (A, i, c)) k88 (by rfl) ?_
      dsimp only
      have hle := ho8.le
      refine append_newi (E := numE .u32) (ys := [n]) (by rfl) rfl elem_u32 ho8 (by omega) (by omega) (by omega) ?_
      intro A' c' w9 ho9 hg9
      have hx9 : ∀ j, orow A = some j → w5.heap.size ≤ j := fun j hj => ho8.row j hj
      have oc : Only (fun j => orow A = some j) w8 w9 := Only.of_grown hg9.grown (fun j hj => .inl hj)
      have hAt9 := hAt8.only oc (fun j hj e => hAF8 j e hj)
      have k19 := k18.only oc (fun e => by have := hx9 _ e; omega)
      have k29 := k28.only oc (fun e => by have := hx9 _ e; omega)
      have k89 := k88.only oc (fun e => by have := hx9 _ e; omega)
      have o9 : Only F w w9 := Only.trans o8 oc (fun j hj => .inr (by have := hx9 j hj; omega))
      refine stW_blk k89 (by show 0 < 1; omega) ?_
      have hg10 := set_grown w9 r8 0 (.slice A' (i + 1) c')
      have oc2 : Only (fun k => k = r8) w9 (w9.setCell ⟨r8, 0, none⟩ (.slice A' (i + 1) c')) := Only.of_grown hg10 (fun j hj => .inl (by injection hj with hj; exact hj.symm))
      have hr8F : ¬ F8 r8 := fun hf => by
        rcases hF8w r8 hf with e | e
        · exact hnF r8 (by omega) e
        · omega
      refine ⟨⟨i + 1, _, ks ++ [n], F8, A', c', by omega, by rw [List.length_append, List.length_singleton, hik], rfl, by rw [dataP_succ]; exact s2, hAt9.only oc2 (fun j hj e => hr8F (by rw [← show j = r8 from e]; exact hj)), hF8w, Only.trans o9 oc2 (fun j hj => .inr (by have : j = r8 := hj; omega)), ?_, k19.only oc2 (by show ¬ r1 = r8; omega), k29.only oc2 (by show ¬ r2 = r8; omega), k89.set 0 _, ?_, fun j hj => ?_⟩, by omega⟩
      · exact Nat.le_trans hsz (Nat.le_trans hs7 (Nat.le_trans hs8 (Nat.le_trans hg9.grown.size hg10.size)))
      · exact ho9.only oc2 (fun j hj e => by have := ho9.row j hj; have : j = r8 := e; omega)
      · rcases hg9.next j hj with e | e
        · exact hAF8 j e
        · intro hf; have := hAt8.lt j hf; omega
    · have e9 := put_full (S := Si) (R := ks ++ R) (p := ((7 : UInt8), [], part S.r0 bs i)) hP.good (show 3 ≤ (7 : UInt8).toNat by decide) (by rw [hr0i.2.1]; show ((0 : Nat) : Int) ≤ _; omega) (by show ((part S.r0 bs i).size : Int) ≤ Si.room ((0 : Nat) : Int); rw [show (((0 : Nat) : Int)) = 0 from rfl, hr0i.2.1]; omega) (by omega)
      rw [e9] at hAt8 ⊢
      refine ⟨((0 : Int), (9 : Int), ()), rfl, splitW_t (by rfl) ?_⟩
      exact fail i hik hP hAt8 hF8w o8 (by omega) k18 k28 k88 ho8.sl (fun a ha => by
        obtain ⟨a1, a2, a3, a4, a5⟩ := hAok a ha
        exact ⟨a1, a2, a3, a4, hAF8 _ (by rw [ha]; rfl)⟩)
  obtain rfl : i = M := by omega
  refine splitW_f (decide_eq_false (by omega)) ?_
  refine draw_i fun w7 he7 _ _ => ?_
  have o7 : Only F w w7 := Only.trans hO (Only.of_ext (F := F) he7) (fun j hj => .inl hj)
  refine ldW_blk (x := some ⟨b, 0, none⟩) (k1.ext he7) (by rfl) ?_
  refine ldW_blk (l := .slc) (x := (A, i, c)) (k8.ext he7) (by rfl) ?_
  rw [wrap_u64_nat (by omega)]
  refine callW_of (octput_calls (bs := []) (v := bs.size) (k := 4) (Own.nil 5 w7 w7.heap.size) (Nat.le_refl _) (by omega) (by omega) (by omega) (by omega)) ?_
  rintro _ w8 ⟨y8, rfl, ho8, hg8⟩
  refine ⟨y8, rfl, ?_⟩
  have hx8 : Ext w7 w8 := (Ext.refl w7).grown hg8.grown (fun j hj => by cases hj)
  have he8 := he7.trans hx8
  have k18 := k1.ext he8
  have k28 := k2.ext he8
  have k88 := k8.ext he8
  have hoo := ho.ext he8
  have o8 : Only F w w8 := Only.trans hO (Only.of_ext (F := F) he8) (fun j hj => .inl hj)
  have held : ∀ l ∈ ([[((⟨r8, 0, none⟩ : Addr), .slice A i c)], [((⟨r1, 0, none⟩ : Addr), .pointer (some ⟨b, 0, none⟩))]] : List (List (Addr × Value))), ∀ p ∈ l, w8.cell? p.1 = some p.2 := fun l hl p hp => by
    simp only [List.mem_cons, List.not_mem_nil, or_false] at hl
    rcases hl with rfl | rfl <;> (simp only [List.mem_cons, List.not_mem_nil, or_false] at hp; subst hp)
    · exact (k88.cell 0).trans rfl
    · exact (k18.cell 0).trans rfl
  refine ⟨held, ?_⟩
  refine conv_str (e := 5) (by kernel_rfl) (by kernel_rfl) (by kernel_rfl) ho8.sl ?_
  refine ⟨held, ?_⟩
  rw [List.nil_append]
  show callW _ _ [_, .agg (pgV ((6 : UInt8), ks, mkB (le 4 bs.size)) (A, i, c)).toArray] _ _ w8
  obtain ⟨Fd8, x8, hb8', hr8', nb8, nr8, m8, hS8⟩ := hAt.ext he8
  have hs8 := he8.size
  have hp1 : ((6 : UInt8), ks, mkB (le 4 bs.size)).2.1.length = i := hik.symm
  have hd4 : (mkB (le 4 bs.size)).size = 4 := by rw [mkB_size, le_length]
  have hkr : Si.room ks.length = (S.r0 : Int) - 4 * i := by
    have := h.dims.room
    rw [hr0i.2.2, ← hik]
    unfold Spa.room
    rw [this, if_neg (by omega)]
    omega
  refine callW_of (putS_calls hS8 hP.good.h01 hgeni hpeni ((6 : UInt8), ks, mkB (le 4 bs.size)) hoo.sl (fun k hk => by have := (hP.mem hk).2.1; have := h.dims.n; omega) (fun a ha => (hAok a ha).2.2.2.2) (by show (mkB (le 4 bs.size)).size ≤ _; omega)) ?_
  rintro _ w9 ⟨rfl, F9, hAt9, hF9, hO9⟩
  have hF9w : ∀ k, F9 k → F k ∨ w5.heap.size ≤ k := fun k hk => by
    rcases hF9 k hk with e | e
    · exact hF' k e
    · exact .inr (by omega)
  have o9 : Only F w w9 := Only.trans o8 hO9 hF'w
  have k19 := k18.only hO9 (hF5 r1 (by omega) (by omega))
  have k29 := k28.only hO9 (hF5 r2 (by omega) (by omega))
  have k89 := k88.only hO9 (hF5 r8 (by omega) (by omega))
  have ho9 := hoo.only hO9 hAF
  have hAF9 : ∀ j, orow A = some j → ¬ F9 j := fun j hj hf => by
    rcases hF9 j hf with e | e
    · exact hAF j hj e
    · have := hoo.row_lt j hj; omega
  have hA9 : ∀ a, A = some a → w.heap.size ≤ a.block ∧ a.block ≠ r1 ∧ a.block ≠ r2 ∧ a.block ≠ r8 ∧ ¬ F9 a.block := fun a ha => by
    obtain ⟨a1, a2, a3, a4, a5⟩ := hAok a ha
    exact ⟨a1, a2, a3, a4, hAF9 _ (by rw [ha]; rfl)⟩
  by_cases hfree : Si.sup.pages.length < Si.freeN
  · obtain ⟨s1, s2, s3⟩ := put_good (S := Si) (R := R) (p := ((6 : UInt8), ks, mkB (le 4 bs.size))) hP.good (show 3 ≤ (6 : UInt8).toNat by decide) (by show ((ks.length : Nat) : Int) ≤ _; rw [hr0i.2.1]; omega) (by show ((mkB (le 4 bs.size)).size : Int) ≤ Si.room ((ks.length : Nat) : Int); rw [hkr, hd4]; omega) hfree
    refine ⟨(((Si.put ((6 : UInt8), ks, mkB (le 4 bs.size))).2.1 : Int), (Si.put ((6 : UInt8), ks, mkB (le 4 bs.size))).2.2, ()), rfl, ?_⟩
    rw [s1]
    refine stW_blk k29 (by show 0 < 1; omega) ?_
    have hg10 := set_grown w9 r2 0 (.int .i64 0)
    have oc : Only (fun k => k = r2) w9 (w9.setCell ⟨r2, 0, none⟩ (.int .i64 0)) := Only.of_grown hg10 (fun j hj => .inl (by injection hj with hj; exact hj.symm))
    have hr2F : ¬ F9 r2 := fun hf => by
      rcases hF9w r2 hf with e | e
      · exact hnF r2 (by omega) e
      · omega
    obtain ⟨Fd9, x9, hb9', hr9', nb9, nr9, m9, hS9⟩ := hAt9
    have hS9' := hS9.only oc (fun j hj e => hr2F (by rw [← show j = r2 from e]; exact hj))
    refine .inr ⟨_, _, rfl, by kernel_rfl, ?_⟩
    have hr1F : ¬ F9 r1 := fun hf => by
      rcases hF9w r1 hf with e | e
      · exact hnF r1 (by omega) e
      · omega
    refine CallsDIn.mono (putd_calls (c' := []) (ks := ks) (e := 0) hS9' (k19.only oc (by show ¬ r1 = r2; omega)) (k29.set 0 (.int .i64 0)) (k89.only oc (by show ¬ r8 = r2; omega)) (ho9.sl.only oc (fun a ha e => (hA9 a ha).2.2.1 e)) (fun k hk => by have := (hP.mem hk).2.1; have := h.dims.n; omega) hr1F hr2F (fun a ha => (hA9 a ha).2.2.2.2) (fun e => absurd rfl e)) ?_
    rintro e u' w11 ⟨hu, hR⟩
    refine ⟨hu, ?_⟩
    cases e with
    | returned v =>
      obtain ⟨p1, p2, p3⟩ := hR
      refine ldW_blk (x := (0 : Int)) p3 (by rfl) (.inr (.inl ⟨hmost, by rw [hm]; omega, Si, _, ks, _, by rw [hm]; exact hP, s2, s3, rfl, F9, ?_, fun k hk => ?_, ?_⟩))
      · rw [if_pos rfl] at p1
        exact p1.toAt
      · rcases hF9w k hk with e | e
        · exact .inl e
        · exact .inr (Nat.le_trans he5'.size e)
      · have o10 : Only F w (w9.setCell ⟨r2, 0, none⟩ (.int .i64 0)) := Only.trans o9 oc (fun j hj => .inr (by have : j = r2 := hj; omega))
        exact Only.trans o10 p2 (fun j hj => by
          rcases hF9w j hj with e | e
          · exact .inl e
          · exact .inr (Nat.le_trans he5'.size e))
    | panicked c => exact hR.elim
    | outgrown => exact hR.elim
  · have e9 := put_full (S := Si) (R := R) (p := ((6 : UInt8), ks, mkB (le 4 bs.size))) hP.good (show 3 ≤ (6 : UInt8).toNat by decide) (by show ((ks.length : Nat) : Int) ≤ _; rw [hr0i.2.1]; omega) (by show ((mkB (le 4 bs.size)).size : Int) ≤ Si.room ((ks.length : Nat) : Int); rw [hkr, hd4]; omega) (by omega)
    rw [e9] at hAt9 ⊢
    refine ⟨((0 : Int), (9 : Int), ()), rfl, ?_⟩
    exact fail i hik hP hAt9 hF9w o9 (by omega) k19 k29 k89 ho9.sl hA9
end Go.Proofs.YtcjobbcijbkjkaaGreat.V

/- Contracts of the package blob: index, parts. -/
set_option linter.unusedVariables false
set_option linter.unusedSimpArgs false
namespace Go.Proofs.YtcjobbcijbkjkaaGreat.V
open Go Go.Proofs Go.RowKit Crc

/-- What index tells. -/
def idxS (S : Spa) (n : Nat) : Nat × List Nat × Int :=
  if (S.get n).2 ≠ 0 then (0, [], (S.get n).2)
  else if (S.get n).1.1 ≠ 6 then (0, [], 11)
  else if (S.get n).1.2.2.size ≠ 4 then (0, [], 10)
  else if lev (B (S.get n).1.2.2) > 65536 ∨ nparts S.r0 (lev (B (S.get n).1.2.2)) ≠ (S.get n).1.2.1.length then (0, [], 10)
  else (lev (B (S.get n).1.2.2), (S.get n).1.2.1, 0)
/-- What parts tells of pages. -/
def partE (S : Spa) (want k : Nat) : Int := if (S.get k).2 = 0 ∧ ((S.get k).1.1 ≠ 7 ∨ 0 < (S.get k).1.2.1.length ∨ (S.get k).1.2.2.size ≠ want) then 10 else (S.get k).2
def goS (S : Spa) : Nat → List Nat → List (ByteArray × Int)
  | _, [] => []
  | size, k :: ks => if partE S (min size S.r0) k ≠ 0 then [(ByteArray.empty, partE S (min size S.r0) k)] else ((S.get k).1.2.2, 0) :: goS S (size - min size S.r0) ks
def partsS (S : Spa) (n : Nat) : List (ByteArray × Int) := if (idxS S n).2.2 ≠ 0 then [(ByteArray.empty, (idxS S n).2.2)] else goS S (idxS S n).1 (idxS S n).2.1
def pairV (l : List (ByteArray × Int)) : List (List Value) := l.map fun p => [.string p.1, .int .i64 p.2]
theorem pairV_length (l : List (ByteArray × Int)) : (pairV l).length = l.length := by simp [pairV]
theorem pairV_get {l : List (ByteArray × Int)} {i : Nat} (h : i < (pairV l).length) {p : ByteArray × Int} (hp : l[i]? = some p) : (pairV l)[i] = [.string p.1, .int .i64 p.2] := by
  obtain ⟨h1, h2⟩ := List.getElem?_eq_some_iff.1 hp
  simp [pairV, h2]
variable {w w' : World} {b db : Nat} {S : Spa} {F Fd : Nat → Prop} {x : SLC} {hb hr nb nr : Nat} {m : MkL}
theorem getS_len {n : Nat} (h : (S.get n).2 = 0) : (S.get n).1.2.1.length ≤ 1024 ∧ ∀ k ∈ (S.get n).1.2.1, 2 ≤ k ∧ k < S.N := by
  unfold Spa.get at h ⊢
  split
  · rename_i hq; rw [if_pos hq] at h; cases h
  · rename_i hq
    rw [if_neg hq] at h
    split
    · rename_i h0; rw [if_pos h0] at h; cases h
    · exact pageR_kids
theorem index_calls' (h : SpM w b db S F Fd x hb hr nb nr m) {n : Nat} (hn : n < 4294967296) :
    Calls Tryz.prog 36 #[.pointer (some ⟨b, 0, none⟩), .int .u32 (n : Int)] w (Ret fun v w' => ∃ y : SLC, v = .tuple #[.int .i64 ((idxS S n).1 : Int), .slice y.1 y.2.1 y.2.2, .int .i64 (idxS S n).2.2] ∧ Owni (numE .u32) 30 w' w.heap.size y.1 y.2.1 y.2.2 (idxS S n).2.1 ∧ Ext w w') := by
  obtain ⟨q0, q1, q2, q3⟩ := r0_spec h.dims
  apply calls36
  unfold S36 idxS
  refine callW_of (getS_calls h hn) ?_
  rintro _ w1 ⟨y, rfl, hok, he1⟩
  refine ⟨(pgT (S.get n).1 y, (S.get n).2, ()), rfl, ?_⟩
  refine box_i (vs := pgV (S.get n).1 y) (by rfl) (pgV_one _ _) (fun r2 w2 hb2 he2 hr2 => ?_) (by rfl)
  have he := he1.trans he2
  have hok2 := hok.ext he2
  dsimp only
  refine splitW_i (fun hq => ?_) (fun hq => ?_)
  · have hq := bne_iff_ne.1 hq
    rw [if_pos hq]
    exact ⟨(none, 0, 0), rfl, Owni.nil _ _ _, he⟩
  have h0 := bne_eq_false_iff_eq.1 hq
  rw [if_neg (fun hh => hh h0)]
  have hkl := getS_len h0
  have hyn := hok2.len
  refine box0 (((S.get n).1.1.toNat : Nat) : Int) hb2 (by rfl) ?_
  refine splitW_i (fun hq => ?_) (fun hq => ?_)
  · have hq := bne_iff_ne.1 hq
    rw [if_pos (by intro e; rw [e] at hq; exact hq rfl)]
    exact ⟨(none, 0, 0), rfl, Owni.nil _ _ _, he⟩
  have h6 := bne_eq_false_iff_eq.1 hq
  have h6' : (S.get n).1.1 = 6 := by
    apply UInt8.toNat_inj.1
    show _ = 6
    omega
  rw [if_neg (fun hh => hh h6')]
  refine boxF 2 (S.get n).1.2.2 hb2 (by rfl) ?_
  refine splitW_i (fun hq => ?_) (fun hq => ?_)
  · have hq := bne_iff_ne.1 hq
    rw [if_pos (by omega)]
    exact ⟨(none, 0, 0), rfl, Owni.nil _ _ _, he⟩
  have h4 := bne_eq_false_iff_eq.1 hq
  have h4' : (S.get n).1.2.2.size = 4 := by omega
  rw [if_neg (fun hh => hh h4')]
  refine boxF 2 (S.get n).1.2.2 hb2 (by rfl) ?_
  refine conv_bytes (u := .string) (e := 5) (by kernel_rfl) (by kernel_rfl) (by kernel_rfl) (by omega) ?_
  intro c w3 hsl he3 hs3 hc3
  refine callW_of (octof_calls hsl (by dsimp only; omega)) ?_
  rintro _ w4 ⟨rfl, he4⟩
  refine ⟨_, rfl, ?_⟩
  have hlv : lev (B (S.get n).1.2.2) < 4294967296 := by
    have := rd_lt4 (B (S.get n).1.2.2)
    unfold rd at this
    have hl : (B (S.get n).1.2.2).length = 4 := by rw [← B_size]; exact h4'
    rw [if_neg (by omega), List.take_of_length_le (by omega)] at this
    exact this
  generalize lev (B (S.get n).1.2.2) = z at *
  have he34 := he3.trans he4
  have he04 := he.trans he34
  refine callW_of (roomC_calls (h.ext he04) (k := 0) (by omega) (by omega)) ?_
  rintro _ w5 ⟨rfl, he5⟩
  refine ⟨_, rfl, ?_⟩
  have he05 := he04.trans he5
  rw [q0, wrap_i64 (x := (z : Int)) (by omega) (by omega)]
  refine draw_i fun w6 he6 _ _ => ?_
  have he06 := he05.trans he6
  have he26 := (he34.trans he5).trans he6
  refine splitW_i (fun hq => ?_) (fun hq => ?_)
  · have hq := of_decide_eq_true hq
    rw [if_pos (.inl (by omega))]
    exact ⟨(none, 0, 0), rfl, Owni.nil _ _ _, he06⟩
  have hz := of_decide_eq_false hq
  refine guard_i (by omega) ?_
  refine boxF (l := .slc) 1 y (hb2.ext he26) (by rfl) ?_
  have hnp : nparts S.r0 z ≤ 65536 := by
    unfold nparts
    rw [Nat.div_le_iff_le_mul_add_pred (by omega)]
    have : 110 * 65536 ≤ S.r0 * 65536 := Nat.mul_le_mul_right _ q1
    omega
  have eM : IntKind.wrap .i64 (Int.tdiv (IntKind.wrap .i64 (IntKind.wrap .i64 ((z : Int) + (S.r0 : Int)) - 1)) (S.r0 : Int)) = (nparts S.r0 z : Int) := by
    rw [wrap_i64 (x := (z : Int) + (S.r0 : Int)) (by omega) (by omega), wrap_i64 (x := (z : Int) + (S.r0 : Int) - 1) (by omega) (by omega)]
    rw [show (z : Int) + (S.r0 : Int) - 1 = ((z + S.r0 - 1 : Nat) : Int) by omega, show Int.tdiv ((z + S.r0 - 1 : Nat) : Int) (S.r0 : Int) = (((z + S.r0 - 1) / S.r0 : Nat) : Int) from rfl]
    have : (z + S.r0 - 1) / S.r0 = nparts S.r0 z := rfl
    rw [this, wrap_i64 (by omega) (by omega)]
  rw [eM]
  refine splitW_i (fun hq => ?_) (fun hq => ?_)
  · have hq := bne_iff_ne.1 hq
    rw [if_pos (.inr (by omega))]
    exact ⟨(none, 0, 0), rfl, Owni.nil _ _ _, he06⟩
  have hq := bne_eq_false_iff_eq.1 hq
  rw [if_neg (by omega)]
  refine draw_i fun w7 he7 _ _ => ?_
  refine boxF (l := .slc) 1 y ((hb2.ext he26).ext he7) (by rfl) ?_
  exact ⟨y, rfl, (hok2.ext he26).ext he7, he06.trans he7⟩
theorem bsize_calls (h : SpM w b db S F Fd x hb hr nb nr m) {n : Nat} (hn : n < 4294967296) :
    Calls Tryz.prog 12 #[.pointer (some ⟨b, 0, none⟩), .int .u32 (n : Int)] w (Ret fun v w' => v = .tuple #[.int .i64 ((idxS S n).1 : Int), .int .i64 (idxS S n).2.2] ∧ Ext w w') := by
  apply calls12
  unfold S12
  refine callW_of (index_calls' h hn) ?_
  rintro _ w1 ⟨y, rfl, hok, he⟩
  exact ⟨(((idxS S n).1 : Int), y, (idxS S n).2.2, ()), rfl, rfl, he⟩
/-! ### parts -/
/-- No row of bytes. -/
def NoB (w : World) (k : Nat) : Prop := ∀ o, w.heap[k]? = some o → ∀ c fz, o ≠ .cells c 5 fz
theorem NoB.at_ {w w' : World} {k : Nat} (h : NoB w k) (e : w'.heap[k]? = w.heap[k]?) : NoB w' k := fun o ho => h o (e ▸ ho)
theorem noB_blk {w : World} {k : Nat} {cs : List Value} {t : TypeId} (h : Blk w k cs t) (ht : t ≠ 5) : NoB w k := fun o ho c fz e => by
  have h' : w.heap[k]? = some _ := h
  rw [h'] at ho
  injection ho with ho
  rw [← ho] at e
  injection e with _ e2 _
  exact ht e2
theorem noB_row {α : Type} {E : Enc α} {w : World} {B n c : Nat} {A : Option Addr} {xs : List α} {e : TypeId} (h : Owni E e w B A n c xs) (he : e ≠ 5) : ∀ q, orow A = some q → NoB w q := fun q hq o ho c' fz ee => by
  rcases h.2 with ⟨hv, _⟩ | ⟨g, cap, cur, hv, _, hg, _⟩
  · injection hv with hv; subst hv; cases hq
  · injection hv with hv
    subst hv
    have : g = q := Option.some.inj hq
    subst this
    rw [hg] at ho
    injection ho with ho
    rw [← ho] at ee
    injection ee with _ e2 _
    exact he e2
def RSp (b db : Nat) (S : Spa) (F Fd : Nat → Prop) (x : SLC) (hb hr nb nr : Nat) (m : MkL) : WP := fun w => SpM w b db S F Fd x hb hr nb nr m
def Two (b n r1 r2 : Nat) : WP := fun w => Blk w r1 [.pointer (some ⟨b, 0, none⟩)] 24 ∧ Blk w r2 [.int .u32 (n : Int)] 30
theorem parts_walk {N0 l n r1 r2 : Nat} {J : (Nat → Prop) → Nat → WP} {E : (Nat → Prop) → WP} {Q : Nat → Prop} {wc : World} (hn : n < 4294967296) (hF0 : ∀ k, F k → k < N0) (hN0 : N0 ≤ wc.heap.size) (hQ1 : Q r1) (hQB : ∀ k, Q k → NoB wc k) (hQN : ∀ k, Q k → N0 ≤ k)
    (hJ0 : J Q 0 wc) (hQc : ∀ k, Q k → k < wc.heap.size) (hR0 : Two b n r1 r2 wc) (hJR : ∀ V i w', J V i w' → RSp b db S F Fd x hb hr nb nr m w')
    (hJ : ∀ (V V' : Nat → Prop) i w' w'', J V i w' → Only V w' w'' → (∀ k, V' k → V k ∨ w'.heap.size ≤ k) → RSp b db S F Fd x hb hr nb nr m w'' → J V' i w'')
    (hY : ∀ (V : Nat → Prop) i w' (h : i < (pairV (partsS S n)).length), J V i w' → (∀ k, V k → k < w'.heap.size) → (∀ k, V k → NoB w' k) → YieldAt Tryz.prog l (pairV (partsS S n))[i] w' fun v w'' => w'.heap.size ≤ w''.heap.size ∧ (∀ k, V k → w''.heap[k]? = w'.heap[k]?) ∧
      ((v = .bool true ∧ RSp b db S F Fd x hb hr nb nr m w'' ∧ J V (i + 1) w'') ∨ (v = .bool false ∧ E V w''))) :
    Calls Tryz.prog 70 #[.func (.yield l) #[] #[], .pointer (some ⟨r1, 0, none⟩), .pointer (some ⟨r2, 0, none⟩)] wc (Ret fun _ w' => ∃ V : Nat → Prop, (J V (pairV (partsS S n)).length w' ∧ (∀ k, V k → Q k ∨ wc.heap.size ≤ k) ∧ True) ∨ E V w') := by
  obtain ⟨k1, k2⟩ := hR0
  have hS := hJR _ _ _ hJ0
  have hS' : SpM wc b db S F Fd x hb hr nb nr m := hS
  obtain ⟨q0, q1, q2, q3⟩ := r0_spec hS'.dims
  have hRst : ∀ {w1 w2 : World}, RSp b db S F Fd x hb hr nb nr m w1 → Ext w1 w2 → RSp b db S F Fd x hb hr nb nr m w2 := fun h e => SpM.ext h e
  apply calls70
  unfold S70
  refine ldW_blk (x := some ⟨b, 0, none⟩) k1 (by rfl) (ldW_blk (x := (n : Int)) k2 (by rfl) ?_)
  refine callW_of (index_calls' hS' hn) ?_
  rintro _ w1 ⟨y, rfl, hok, he1⟩
  refine ⟨(((idxS S n).1 : Int), y, (idxS S n).2.2, ()), rfl, ?_⟩
  dsimp only
  -- a yield, whatever comes behind
  have yld : ∀ {V : Nat → Prop} {i : Nat} {w2 : World} {p : ByteArray × Int} {K : Bool → WP}, J V i w2 → (∀ k, V k → k < w2.heap.size) → (∀ k, V k → NoB w2 k) → (partsS S n)[i]? = some p → (∀ w3, w2.heap.size ≤ w3.heap.size → (∀ k, V k → w3.heap[k]? = w2.heap[k]?) → RSp b db S F Fd x hb hr nb nr m w3 → J V (i + 1) w3 → K true w3) → (∀ w3, E V w3 → K false w3) →
      callVW Tryz.prog (.func (.yield l) #[] #[]) [.string p.1, .int .i64 p.2] (.one (.one .bool)) K w2 := by
    intro V i w2 p K hJ2 hV2 hB2 hp hK1 hK2
    have hidx : i < (pairV (partsS S n)).length := by rw [pairV_length]; exact (List.getElem?_eq_some_iff.1 hp).1
    refine .inr ⟨l, rfl, ?_⟩
    have hy := hY V i w2 hidx hJ2 hV2 hB2
    rw [pairV_get hidx hp] at hy
    obtain ⟨fn, tmps, asg, bd, hy1, hy2⟩ := hy
    refine ⟨fn, tmps, asg, bd, hy1, RoundIn.mono hy2 ?_⟩
    rintro (v | cc | _) w6 hvv
    · obtain ⟨a1, a2, ⟨rfl, a3, a4⟩ | ⟨rfl, a3⟩⟩ := hvv
      · exact ⟨true, rfl, hK1 w6 a1 a2 a3 a4⟩
      · exact ⟨false, rfl, hK2 w6 a3⟩
    · exact hvv
    · exact hvv
  have he1s := he1.size
  let V1 : Nat → Prop := fun q => Q q ∨ orow y.1 = some q
  have hV1n : ∀ q, V1 q → Q q ∨ wc.heap.size ≤ q := fun q hq => by
    rcases hq with hq | hq
    · exact .inl hq
    · exact .inr (hok.row q hq)
  have hV1l : ∀ q, V1 q → q < w1.heap.size := fun q hq => by
    rcases hq with hq | hq
    · exact Nat.lt_of_lt_of_le (hQc q hq) he1s
    · exact hok.row_lt q hq
  have hV1b : ∀ q, V1 q → NoB w1 q := fun q hq => by
    rcases hq with hq | hq
    · exact (hQB q hq).at_ (he1.block q (hQc q hq))
    · exact noB_row hok (by decide) q hq
  have hJ1 : J V1 0 w1 := hJ _ _ _ _ _ hJ0 (Only.of_ext he1) hV1n (hRst hS he1)
  refine splitW_i (fun hq => ?_) (fun hq => ?_)
  · have hq := bne_iff_ne.1 hq
    have ep : partsS S n = [(ByteArray.empty, (idxS S n).2.2)] := by unfold partsS; rw [if_pos hq]
    refine yld (p := (ByteArray.empty, (idxS S n).2.2)) hJ1 hV1l hV1b (by rw [ep]; rfl) (fun w3 _ _ _ hJ3 => ⟨V1, .inl ⟨?_, hV1n, trivial⟩⟩) (fun w3 hE => ⟨V1, .inr hE⟩)
    rw [pairV_length, ep]
    exact hJ3
  have hq := bne_eq_false_iff_eq.1 hq
  have ep : partsS S n = goS S (idxS S n).1 (idxS S n).2.1 := by unfold partsS; rw [if_neg (fun hh => hh hq)]
  have hyn := hok.len
  have hkn : ∀ k ∈ (idxS S n).2.1, k < 4294967296 := by
    intro k hk
    have hd := hS'.dims.n
    unfold idxS at hk
    split at hk
    · cases hk
    · rename_i h0
      have h0 : (S.get n).2 = 0 := by omega
      have := getS_len h0
      split at hk
      · cases hk
      · split at hk
        · cases hk
        · split at hk
          · cases hk
          · have := this.2 k hk; omega
  have hz65 : (idxS S n).1 ≤ 65536 := by
    unfold idxS
    split
    · omega
    · split
      · omega
      · split
        · omega
        · split
          · omega
          · rename_i hh; omega
  have hle := hok.le
  generalize hks : (idxS S n).2.1 = ks at *
  generalize hsz0 : (idxS S n).1 = z0 at *
  refine loopW_i (fun y' w' => ∃ (j zj : Nat) (V : Nat → Prop), j ≤ y.2.1 ∧ y' = ((zj : Int), (j : Int), ()) ∧ zj ≤ 65536 ∧ (partsS S n).drop j = goS S zj (ks.drop j) ∧ j ≤ (partsS S n).length ∧ J V j w' ∧ (∀ q, V1 q → V q) ∧ (∀ q, V q → Q q ∨ wc.heap.size ≤ q) ∧ (∀ q, V q → q < w'.heap.size) ∧ (∀ q, V q → NoB w' q) ∧ (∀ q, V1 q → w'.heap[q]? = w1.heap[q]?) ∧ w1.heap.size ≤ w'.heap.size) (fun y' => (y.2.1 - y'.2.1).toNat)
    ⟨0, z0, V1, by omega, rfl, hz65, by rw [ep]; rfl, by omega, hJ1, fun q h => h, hV1n, hV1l, hV1b, fun _ _ => rfl, Nat.le_refl _⟩ ?_
  rintro _ w2 ⟨j, zj, V, hj, rfl, hzj, hdrop, hjl, hJ2, hVV, hVn, hVl, hVb, hkp, hs12⟩
  dsimp only
  have hS2 := hJR _ _ _ hJ2
  have hS2' : SpM w2 b db S F Fd x hb hr nb nr m := hS2
  have k1w := (k1.ext he1).at_ (hkp r1 (.inl hQ1))
  have hslj : Sli (numE .u32) w2 y.1 y.2.1 ks := hok.sl.congr (fun a ha => hkp _ (.inr (by rw [ha]; rfl)))
  by_cases hlt : j < y.2.1
  · refine splitW_t (decide_eq_true (by omega)) ?_
    refine idx_num hslj (by omega) (by omega) ?_
    rw [Int.toNat_natCast]
    have eg : ks[j]? = some (ks.getD j 0) := by rw [List.getD_eq_getElem?_getD, List.getElem?_eq_getElem (by omega)]; rfl
    have hk32 := hkn _ (List.mem_of_getElem? eg)
    have edrop : ks.drop j = ks.getD j 0 :: ks.drop (j + 1) := by
      obtain ⟨h1, h2⟩ := List.getElem?_eq_some_iff.1 eg
      rw [List.drop_eq_getElem_cons h1, h2]
    rw [edrop] at hdrop
    generalize ks.getD j 0 = k at *
    refine ldW_blk (x := some ⟨b, 0, none⟩) k1w (by rfl) ?_
    refine callW_of (roomC_calls hS2' (k := 0) (by omega) (by omega)) ?_
    rintro _ w3 ⟨rfl, he3⟩
    refine ⟨_, rfl, ?_⟩
    rw [q0]
    refine ldW_blk (x := some ⟨b, 0, none⟩) (k1w.ext he3) (by rfl) ?_
    refine callW_of (getS_calls (hS2'.ext he3) hk32) ?_
    rintro _ w4 ⟨y2, rfl, hok4, he4⟩
    refine ⟨(pgT (S.get k).1 y2, (S.get k).2, ()), rfl, ?_⟩
    refine box_i (vs := pgV (S.get k).1 y2) (by rfl) (pgV_one _ _) (fun r13 w5 hb5 he5 hr5 => ?_) (by rfl)
    have he25 := (he3.trans he4).trans he5
    have h25 := he25.size
    have hkl : (S.get k).2 = 0 → (S.get k).1.2.1.length ≤ 1024 := fun h0 => (getS_len h0).1
    have hy2n := hok4.len
    have ewant : (if ((S.r0 : Nat) : Int) < (zj : Int) then ((S.r0 : Nat) : Int) else (zj : Int)) = ((min zj S.r0 : Nat) : Int) := by split <;> omega
    rw [ewant]
    dsimp only
    refine joinW_s (fun y' w' => y' = (partE S (min zj S.r0) k, ()) ∧ w' = w5) ?_ (fun J' hJ' => ?_)
    rotate_left
    · unfold partE at hJ'
      refine splitW_i (fun hq => ?_) (fun hq => ?_)
      · have hq := beq_iff_eq.1 hq
        refine box0 (((S.get k).1.1.toNat : Nat) : Int) hb5 (by rfl) ?_
        refine splitW_i (fun h7 => ?_) (fun h7 => ?_)
        · have h7 := bne_iff_ne.1 h7
          exact hJ' _ _ ⟨by rw [if_pos ⟨hq, .inl (fun e => by rw [e] at h7; exact h7 rfl)⟩], rfl⟩
        have h7 := bne_eq_false_iff_eq.1 h7
        have h7' : (S.get k).1.1 = 7 := by
          apply UInt8.toNat_inj.1
          show _ = 7
          omega
        refine boxF (l := .slc) 1 y2 hb5 (by rfl) ?_
        refine splitW_i (fun h8 => ?_) (fun h8 => ?_)
        · have h8 := of_decide_eq_true h8
          exact hJ' _ _ ⟨by rw [if_pos ⟨hq, .inr (.inl (by omega))⟩], rfl⟩
        have h8 := of_decide_eq_false h8
        refine boxF 2 (S.get k).1.2.2 hb5 (by rfl) ?_
        refine splitW_i (fun h9 => ?_) (fun h9 => ?_)
        · have h9 := bne_iff_ne.1 h9
          exact hJ' _ _ ⟨by rw [if_pos ⟨hq, .inr (.inr (by omega))⟩], rfl⟩
        have h9 := bne_eq_false_iff_eq.1 h9
        exact hJ' _ _ ⟨by rw [if_neg (by rintro ⟨_, e | e | e⟩; exact e h7'; omega; omega)], rfl⟩
      · have hq : ¬ (S.get k).2 = 0 := beq_eq_false_iff_ne.1 hq
        exact hJ' _ _ ⟨by rw [if_neg (fun e => hq e.1)], rfl⟩
    rintro y' w6 ⟨rfl, hw6⟩
    rw [hw6]
    dsimp only
    let V2 : Nat → Prop := fun q => V q ∨ q = r13
    have hr13 : w2.heap.size ≤ r13 := Nat.le_trans (he3.trans he4).size hr5
    have hV2n : ∀ q, V2 q → V q ∨ w2.heap.size ≤ q := fun q hq => by
      rcases hq with hq | rfl
      · exact .inl hq
      · exact .inr hr13
    have hJ5 : J V2 j w5 := hJ _ _ _ _ _ hJ2 (Only.of_ext he25) hV2n (hRst hS2 he25)
    have hV2l : ∀ q, V2 q → q < w5.heap.size := fun q hq => by
      rcases hq with hq | rfl
      · exact Nat.lt_of_lt_of_le (hVl q hq) h25
      · exact hb5.lt
    have hV2b : ∀ q, V2 q → NoB w5 q := fun q hq => by
      rcases hq with hq | rfl
      · exact (hVb q hq).at_ (he25.block q (hVl q hq))
      · exact noB_blk hb5 (by decide)
    have hV2Q : ∀ q, V2 q → Q q ∨ wc.heap.size ≤ q := fun q hq => by
      rcases hV2n q hq with e | e
      · exact hVn q e
      · exact .inr (by omega)
    have hkp5 : ∀ q, V1 q → w5.heap[q]? = w1.heap[q]? := fun q hq => (he25.block q (hVl q (hVV q hq))).trans (hkp q hq)
    have hget0 : ∀ p r, (partsS S n).drop j = p :: r → (partsS S n)[j]? = some p ∧ (partsS S n).drop (j + 1) = r ∧ j + 1 ≤ (partsS S n).length := fun p r hh => by
      have h1 : ((partsS S n).drop j)[0]? = some p := by rw [hh]; rfl
      rw [List.getElem?_drop, Nat.add_zero] at h1
      refine ⟨h1, ?_, (List.getElem?_eq_some_iff.1 h1).1⟩
      have h2 := congrArg (List.drop 1) hh
      rw [List.drop_drop] at h2
      simpa using h2
    refine splitW_i (fun hq => ?_) (fun hq => ?_)
    · have hq := bne_iff_ne.1 hq
      rw [goS, if_pos hq] at hdrop
      obtain ⟨g1, g2, g3⟩ := hget0 _ _ hdrop
      have hl1 : (partsS S n).length = j + 1 := by
        have := congrArg List.length hdrop
        rw [List.length_drop, List.length_singleton] at this
        omega
      refine yld (p := (ByteArray.empty, partE S (min zj S.r0) k)) hJ5 hV2l hV2b g1 (fun w7 _ _ _ hJ7 => ⟨V2, .inl ⟨?_, hV2Q, trivial⟩⟩) (fun w7 hE => ⟨V2, .inr hE⟩)
      rw [pairV_length, hl1]
      exact hJ7
    have hq := bne_eq_false_iff_eq.1 hq
    rw [goS, if_neg (fun hh => hh hq)] at hdrop
    obtain ⟨g1, g2, g3⟩ := hget0 _ _ hdrop
    refine boxF 2 (S.get k).1.2.2 hb5 (by rfl) ?_
    refine yld (p := ((S.get k).1.2.2, 0)) hJ5 hV2l hV2b g1 (fun w7 a1 a2 a3 a4 => ?_) (fun w7 hE => splitW_t (by rfl) ⟨V2, .inr hE⟩)
    refine splitW_f (by rfl) ?_
    have w1' : IntKind.wrap .i64 ((zj : Int) - ((min zj S.r0 : Nat) : Int)) = ((zj - min zj S.r0 : Nat) : Int) := by rw [wrap_i64 (by omega) (by omega)]; omega
    have w2' : IntKind.wrap .i64 ((j : Int) + 1) = ((j + 1 : Nat) : Int) := by rw [wrap_i64 (by omega) (by omega)]; rfl
    rw [w1', w2']
    refine ⟨⟨j + 1, zj - min zj S.r0, V2, by omega, rfl, by omega, g2, g3, a4, fun q hq => .inl (hVV q hq), hV2Q, fun q hq => Nat.lt_of_lt_of_le (hV2l q hq) a1, fun q hq => (hV2b q hq).at_ (a2 q hq), fun q hq => (a2 q (.inl (hVV q hq))).trans (hkp5 q hq), by omega⟩, by omega⟩
  · obtain rfl : j = y.2.1 := by omega
    refine splitW_f (decide_eq_false (by omega)) ?_
    rw [List.drop_of_length_le (l := ks) (by omega), goS] at hdrop
    have hl1 : (partsS S n).length = y.2.1 := by
      have := congrArg List.length hdrop
      rw [List.length_drop, List.length_nil] at this
      omega
    refine ⟨V, .inl ⟨?_, hVn, trivial⟩⟩
    rw [pairV_length, hl1]
    exact hJ2
theorem parts_calls (h : SpM w b db S F Fd x hb hr nb nr m) {n : Nat} (hn : n < 4294967296) :
    Calls Tryz.prog 33 #[.pointer (some ⟨b, 0, none⟩), .int .u32 (n : Int)] w (Ret fun v w' => ∃ (Q : Nat → Prop) (R0 : WP), IterV Tryz.prog v (pairV (partsS S n)) (RSp b db S F Fd x hb hr nb nr m) Q R0 (fun _ => True) NoB ∧ R0 w' ∧ (∀ w1 w2, R0 w1 → Ext w1 w2 → R0 w2) ∧ (∀ k, Q k → k < w'.heap.size) ∧ (∀ k, Q k → w.heap.size ≤ k) ∧ Ext w w') := by
  have hFlt := h.lt
  apply calls33
  unfold S33
  refine new_i fun r1 w1 hb1 he1 hr1 hz1 => ?_
  refine new_i fun r2 w2 hb2 he2 hr2 hz2 => ?_
  have he := he1.trans he2
  have hs1 := he1.size
  refine ⟨fun k => k = r1 ∨ k = r2, Two b n r1 r2, ?_, ⟨hb1.ext he2, hb2⟩, fun w1 w2 h1 h2 => ⟨h1.1.ext h2, h1.2.ext h2⟩, fun k hk => by rcases hk with rfl | rfl <;> omega, fun k hk => by rcases hk with rfl | rfl <;> omega, he⟩
  refine ⟨_, _, rfl, by kernel_rfl, fun l J E wc hJ0 hQc hR0c hJR hJs hEs hY => ?_⟩
  exact parts_walk (N0 := w.heap.size) hn hFlt (by have := hQc r1 (.inl rfl); omega) (.inl rfl) (fun k hk => by rcases hk with rfl | rfl; exact noB_blk hR0c.1 (by decide); exact noB_blk hR0c.2 (by decide)) (fun k hk => by rcases hk with rfl | rfl <;> omega) hJ0 hQc hR0c hJR hJs hY
end Go.Proofs.YtcjobbcijbkjkaaGreat.V

/- Contracts of the package blob: Get, Parts. -/
set_option linter.unusedVariables false
set_option linter.unusedSimpArgs false
namespace Go.Proofs.YtcjobbcijbkjkaaGreat.V
open Go Go.Proofs Go.RowKit Crc

variable {w w' : World} {b db : Nat} {S : Spa} {F Fd : Nat → Prop} {x : SLC} {hb hr nb nr : Nat} {m : MkL}
/-- A strings.Builder whose bytes lie in no block of V's. -/
def BdV (V : Nat → Prop) (w : World) (b : Nat) (l : List UInt8) : Prop := ∃ p v, (p = .pointer none ∨ p = .pointer (some ⟨b, 0, none⟩)) ∧ w.heap[b]? = some (.cells #[p, v] 70 (0, 0)) ∧ w.ownsRowF b 5 1 v (Lib.byteCells l).length (Lib.byteCells l) ∧ v.ownBlock ≠ some b ∧ ∀ j, v.ownBlock = some j → ¬ V j
theorem BdV.is {V : Nat → Prop} {w : World} {b : Nat} {l : List UInt8} (h : BdV V w b l) : Lib.IsBuilderF 70 5 b b (Lib.byteCells l) w := by
  obtain ⟨p, v, rfl | rfl, h1, h2, h3, _⟩ := h
  · exact .inl ⟨Nat.le_refl _, v, h1, h2, h3⟩
  · exact .inr ⟨Nat.le_refl _, v, h1, h2, h3⟩
theorem BdV.only {V V' G : Nat → Prop} {w w' : World} {b : Nat} {l : List UInt8} (h : BdV V w b l) (hO : Only G w w') (hb : ¬ G b) (hG : ∀ j, G j → V j ∨ w.heap.size ≤ j ∨ j < b) (hV : ∀ j, V' j → V j ∨ w.heap.size ≤ j) : BdV V' w' b l := by
  obtain ⟨p, v, hp, h1, h2, h3, h4⟩ := h
  have hlt := (Array.getElem?_eq_some_iff.1 h1).1
  refine ⟨p, v, hp, (hO.2.2.2.2 b hlt hb).trans h1, ?_, h3, fun j hj hv => ?_⟩
  · refine ⟨h2.1, ?_⟩
    rcases h2.2 with hn | ⟨g, cap, cur, fz, rfl, hbb, hgg, rest⟩
    · exact .inl hn
    · refine .inr ⟨g, cap, cur, fz, rfl, hbb, ?_, rest⟩
      have hgl := (Array.getElem?_eq_some_iff.1 hgg).1
      rw [hO.2.2.2.2 g hgl (fun hh => by
        rcases hG g hh with e | e | e
        · exact h4 g rfl e
        · omega
        · omega)]
      exact hgg
  · rcases hV j hv with e | e
    · exact h4 j hj e
    · have := (World.ownsRowF.lt h2 j hj).2; omega
theorem BdV.new {V : Nat → Prop} {w : World} {b : Nat} (h : Blk w b [.pointer none, .slice none 0 0] 70) : BdV V w b [] :=
  ⟨_, _, .inl rfl, h, World.ownsRowF_nil w b _ 1, (fun e => by cases e), (fun j hj => by cases hj)⟩
theorem BdV.lt {V : Nat → Prop} {w : World} {b : Nat} {l : List UInt8} (h : BdV V w b l) : b < w.heap.size := by
  obtain ⟨p, v, hp, h1, _⟩ := h
  exact (Array.getElem?_eq_some_iff.1 h1).1
/-- Writing leaves what is no row of bytes. -/
theorem bdws_calls {V : Nat → Prop} {w : World} {b : Nat} {l : List UInt8} (h : BdV V w b l) (s : ByteArray) (hl : l.length + s.size ≤ 140737488355000) (hV : ∀ k, V k → k < w.heap.size ∧ k ≠ b ∧ NoB w k) :
    Calls Tryz.prog 34 #[.pointer (some ⟨b, 0, none⟩), .string s] w (Ret fun v w' => v = .tuple #[.int .i64 s.size, .nilIface] ∧ BdV V w' b (l ++ B s) ∧ Below b w w' ∧ ∀ k, k < w.heap.size → k ≠ b → NoB w k → w'.heap[k]? = w.heap[k]?) :=
  (Tryz.Builder_WriteString_k b b (Lib.byteCells l) s w h.is (by rw [Lib.byteCells_length]; omega) (Nat.le_of_lt h.lt)).mono (by
    rintro e w' ⟨rfl, ⟨h1, v, h2, h3, h4⟩, hB, hK⟩
    have keep : ∀ k, k < w.heap.size → k ≠ b → NoB w k → w'.heap[k]? = w.heap[k]? := fun k h1 h2 h3 => by
      have e := Array.getElem?_eq_getElem h1
      rw [e]
      exact hK k _ e (fun e' => h2 (Option.some.inj e')) (fun c fz => h3 _ e c fz)
    refine ⟨rfl, ⟨_, v, .inr rfl, h2, ?_, h4, fun j hj hv => ?_⟩, hB, keep⟩
    · have ee : Lib.byteCells (l ++ B s) = Lib.byteCells l ++ Lib.strCells s := by simp [Lib.byteCells, strCells_eq, bV]
      rw [ee]
      exact h3
    · obtain ⟨v1, v2, v3⟩ := hV j hv
      rcases h3.2 with ⟨hn, _⟩ | ⟨g, cap, cur, fz, hvv, _, hgg, _⟩
      · subst hn; cases hj
      · subst hvv
        have : g = j := Option.some.inj hj
        subst this
        rw [keep g v1 v2 v3] at hgg
        exact v3 _ hgg cur fz rfl)
theorem bdstr_calls {V : Nat → Prop} {w : World} {b : Nat} {l : List UInt8} (h : BdV V w b l) :
    Calls Tryz.prog 35 #[.pointer (some ⟨b, 0, none⟩)] w (Ret fun v w' => v = .string (mkB l) ∧ Below b w w' ∧ ∀ k, k < w.heap.size → k ≠ b → NoB w k → w'.heap[k]? = w.heap[k]?) :=
  (Tryz.Builder_String_any_k b b l w h.is (Nat.le_of_lt h.lt)).mono (by
    rintro e w' ⟨rfl, _, hB, hK⟩
    refine ⟨rfl, hB, fun k h1 h2 h3 => ?_⟩
    have e := Array.getElem?_eq_getElem h1
    rw [e]
    exact hK k _ e (fun e' => h2 (Option.some.inj e')) (fun c fz => h3 _ e c fz))
/-- What Get of a blob tells. -/
def bgetS (S : Spa) (n : Nat) : ByteArray × Int := match (partsS S n).find? (fun p => decide (p.2 ≠ 0)) with
  | some p => (ByteArray.empty, p.2)
  | none => (mkB ((partsS S n).flatMap fun p => B p.1), 0)
theorem find_first {l : List (ByteArray × Int)} {i : Nat} {p : ByteArray × Int} (hp : l[i]? = some p) (hne : p.2 ≠ 0) (hno : ∀ (j : Nat) (q : ByteArray × Int), j < i → l[j]? = some q → q.2 = 0) : l.find? (fun p => decide (p.2 ≠ 0)) = some p := by
  induction l generalizing i with
  | nil => simp at hp
  | cons a t ih =>
    cases i with
    | zero =>
      simp only [List.getElem?_cons_zero, Option.some.injEq] at hp
      subst hp
      rw [List.find?_cons, decide_eq_true hne]
    | succ i =>
      have h0 := hno 0 a (by omega) rfl
      rw [List.find?_cons, decide_eq_false (fun e => e h0)]
      exact ih (i := i) (by simpa using hp) (fun j q hj hq => hno (j + 1) q (by omega) (by simpa using hq))
theorem find_none {l : List (ByteArray × Int)} (hno : ∀ (j : Nat) (q : ByteArray × Int), l[j]? = some q → q.2 = 0) : l.find? (fun p => decide (p.2 ≠ 0)) = none := by
  rw [List.find?_eq_none]
  intro p hp
  obtain ⟨j, hj, e⟩ := List.mem_iff_getElem.1 hp
  have := hno j p (by rw [List.getElem?_eq_getElem hj, e])
  simp [this]
def bytesS (S : Spa) (n i : Nat) : List UInt8 := ((partsS S n).take i).flatMap fun p => B p.1
theorem bget_calls (h : SpM w b db S F Fd x hb hr nb nr m) {n : Nat} (hn : n < 4294967296) (hlen : (partsS S n).length ≤ 100000) (hsz0 : ∀ p ∈ partsS S n, p.1.size ≤ 5000) :
    Calls Tryz.prog 11 #[.pointer (some ⟨b, 0, none⟩), .int .u32 (n : Int)] w (Ret fun v w' => v = .tuple #[.string (bgetS S n).1, .int .i64 (bgetS S n).2] ∧ Ext w w') := by
  have hFlt := h.lt
  have hbl : ∀ i, (bytesS S n i).length ≤ i * 5000 := by
    intro i
    induction i with
    | zero => simp [bytesS]
    | succ i ih =>
      unfold bytesS at ih ⊢
      rw [List.take_add_one]
      rw [List.flatMap_append, List.length_append]
      cases hp : (partsS S n)[i]? with
      | none => rw [Option.toList_none, List.flatMap_nil, List.length_nil, Nat.add_zero]; exact Nat.le_trans ih (Nat.mul_le_mul_right _ (Nat.le_succ i))
      | some p =>
        have := hsz0 p (List.mem_of_getElem? hp)
        rw [B_size] at this
        rw [Option.toList_some, List.flatMap_cons, List.flatMap_nil, List.append_nil, Nat.add_mul, Nat.one_mul]
        exact Nat.add_le_add ih (by omega)
  apply calls11
  unfold S11
  refine new_i fun r1 w1 hb1 he1 hr1 hz1 => ?_
  refine new_i fun r2 w2 hb2 he2 hr2 hz2 => ?_
  refine splitW_f (by rfl) ?_
  refine new_i fun r5 w3 hb5 he3 hr5 hz5 => ?_
  have hb1 := (hb1.ext he2).ext he3
  have hb2 := hb2.ext he3
  have he := (he1.trans he2).trans he3
  refine callW_of (parts_calls (h.ext he) hn) ?_
  rintro v w4 ⟨Q, R0, hit, hR0, hRx, hQl, hQ, he4⟩
  refine ⟨v, rfl, ?_⟩
  have he04 := he.trans he4
  have hb1 := hb1.ext he4
  have hb2 := hb2.ext he4
  have hb5 := hb5.ext he4
  have h34 := he4.size
  have hs1 := he1.size
  have h04 := he04.size
  have hsame : ∀ {w' w'' : World}, SameBut w4.heap.size (w4.heap.size + 1) w' w'' → RSp b db S F Fd x hb hr nb nr m w' → RSp b db S F Fd x hb hr nb nr m w'' := fun hs hS =>
    SpM.sameBut hS hs (fun hf => by have := hFlt _ hf; omega) (fun hf => by have := hFlt _ hf; omega)
  have hRb : ∀ {w' w'' : World}, Only (fun k => r5 ≤ k) w' w'' → RSp b db S F Fd x hb hr nb nr m w' → RSp b db S F Fd x hb hr nb nr m w'' := fun hO hS => SpM.only hS hO (fun j hj hk => by have := hFlt _ hj; have : r5 ≤ j := hk; omega)
  have hel : ∀ i, i < (partsS S n).length → (partsS S n)[i]? = some ((partsS S n).getD i (ByteArray.empty, 0)) := fun i hi => by rw [List.getD_eq_getElem?_getD, List.getElem?_eq_getElem hi]; rfl
  refine rangeV_i (fun i => (((partsS S n).getD i (ByteArray.empty, 0)).1, ((partsS S n).getD i (ByteArray.empty, 0)).2, ())) ?_
    (fun V i w' => RSp b db S F Fd x hb hr nb nr m w' ∧ Blk w' r1 [.string ByteArray.empty] 9 ∧ Blk w' r2 [.int .i64 0] 31 ∧ BdV (fun k => V k ∨ k = w4.heap.size ∨ k = w4.heap.size + 1) w' r5 (bytesS S n i) ∧ (∀ j q, j < i → (partsS S n)[j]? = some q → q.2 = 0) ∧ Ext w w' ∧ (∀ k, V k → r5 < k) ∧ w4.heap.size ≤ w'.heap.size)
    (fun V c w' => c = .ret ∧ ∃ e : Int, Blk w' r1 [.string ByteArray.empty] 9 ∧ Blk w' r2 [.int .i64 e] 31 ∧ bgetS S n = (ByteArray.empty, e) ∧ Ext w w' ∧ (∀ k, V k → r5 < k) ∧ w4.heap.size ≤ w'.heap.size)
    hit hQl (fun w' w'' hs hS => hsame hs hS) (fun _ _ _ _ => trivial) ?_ ?_ ?_ ?_ ?_ ?_ ?_ ?_
  · intro i hi
    have hi' : i < (partsS S n).length := by rw [pairV_length] at hi; exact hi
    simp [pairV, hi']
  · intro V i w' hI
    exact hI.1
  · rintro V V' i w' w'' ⟨g1, g2, g3, g4, g5, g6, g7, g8⟩ hO hV hR
    have hno : ∀ k, k ≤ r5 → ¬ (V k ∨ k = w4.heap.size ∨ k = w4.heap.size + 1) := fun k hk hh => by
      rcases hh with hh | hh | hh
      · have := g7 k hh; omega
      · omega
      · omega
    refine ⟨hR, g2.only hO (hno r1 (by omega)), g3.only hO (hno r2 (by omega)), ?_, g5, Only.ext g6 hO (fun j hj => ?_), fun k hk => ?_, ?_⟩
    · refine BdV.only g4 hO (hno r5 (by omega)) (fun j hj => .inl hj) (fun j hj => ?_)
      rcases hj with hj | hj
      · rcases hV j hj with e | e
        · exact .inl (.inl e)
        · exact .inr e
      · exact .inl (.inr hj)
    · rcases hj with hj | rfl | rfl
      · have := g7 j hj; omega
      · omega
      · omega
    · rcases hV k hk with e | e
      · exact g7 k e
      · omega
    · have := hO.2.2.2.1; omega
  · rintro V V' c w' w'' ⟨rfl, e, g1, g2, g3, g6, g7, g8⟩ hO hV
    have hno : ∀ k, k ≤ r5 → ¬ (V k ∨ k = w4.heap.size ∨ k = w4.heap.size + 1) := fun k hk hh => by
      rcases hh with hh | hh | hh
      · have := g7 k hh; omega
      · omega
      · omega
    refine ⟨rfl, e, g1.only hO (hno r1 (by omega)), g2.only hO (hno r2 (by omega)), g3, Only.ext g6 hO (fun j hj => ?_), fun k hk => ?_, ?_⟩
    · rcases hj with hj | rfl | rfl
      · have := g7 j hj; omega
      · omega
      · omega
    · rcases hV k hk with e | e
      · exact g7 k e
      · omega
    · have := hO.2.2.2.1; omega
  · intro o
    have hx : Ext w4 ((w4.alloc (.deferred (some []))).alloc o) := ((Ext.refl w4).alloc _).alloc _
    exact ⟨(h.ext he04).ext hx, hb1.ext hx, hb2.ext hx, BdV.new (hb5.ext hx), fun j q hj => by omega, he04.trans hx, fun k hk => by have := hQ k hk; omega, hx.size⟩
  · intro o
    exact hRx _ _ hR0 (((Ext.refl w4).alloc _).alloc _)
  · rintro V i hi w' G N jump hI hsz hV hVb hG
    have hi' : i < (partsS S n).length := by rw [pairV_length] at hi; exact hi
    have ei := hel i hi'
    have hpz := hsz0 _ (List.mem_of_getElem? ei)
    generalize (partsS S n).getD i (ByteArray.empty, 0) = p at *
    refine hG _ w' hI (Nat.le_refl _) (fun _ _ => rfl) ?_
    rintro w2' ⟨g1, g2, g3, g4, g5, g6, g7, g8⟩ hs2 hk2 hNC hN' hJ'
    dsimp only
    refine splitW_i (fun hq => ?_) (fun hq => ?_)
    · have hq := bne_iff_ne.1 hq
      refine stW_blk g2 (by show 0 < 1; omega) ?_
      have a1 := g2.set 0 (.string (ByteArray.mk #[]))
      have a2 := g3.other (p := ⟨r1, 0, none⟩) (by show r1 ≠ r2; omega) (.string (ByteArray.mk #[]))
      refine stW_blk a2 (by show 0 < 1; omega) ?_
      have a3 := a1.other (p := ⟨r2, 0, none⟩) (by show r2 ≠ r1; omega) (.int .i64 p.2)
      have a4 := a2.set 0 (.int .i64 p.2)
      refine hJ' .ret _ ⟨rfl, p.2, a3, a4, ?_, (g6.set (p := ⟨r1, 0, none⟩) (by show w.heap.size ≤ r1; omega) _).set (p := ⟨r2, 0, none⟩) (by show w.heap.size ≤ r2; omega) _, g7, by simp; omega⟩ (by simp) (fun k hk => ?_)
      · unfold bgetS
        rw [find_first ei hq (fun j q hj hq' => g5 j q hj hq')]
      · have hkr : k ≠ r1 ∧ k ≠ r2 := by
          rcases hk with rfl | rfl | hk
          · omega
          · omega
          · have := g7 k hk; omega
        rw [Below.heap_setCell _ _ _ _ (by show k ≠ r2; exact hkr.2), Below.heap_setCell _ _ _ _ (by show k ≠ r1; exact hkr.1)]
    · have hq := bne_eq_false_iff_eq.1 hq
      have hbli := hbl i
      have hV2 : ∀ k, (V k ∨ k = w4.heap.size ∨ k = w4.heap.size + 1) → k < w2'.heap.size ∧ k ≠ r5 ∧ NoB w2' k := fun k hk => by
        rcases hk with hk | hk
        · obtain ⟨v1, v2, v3⟩ := hV k hk
          exact ⟨by omega, by have := g7 k hk; omega, (hVb k hk).at_ (hk2 k v2 v3)⟩
        · exact ⟨by omega, by omega, fun o ho c fz => hNC k hk o ho c _ fz⟩
      refine callW_of (bdws_calls g4 p.1 (by omega) hV2) ?_
      rintro _ w5 ⟨rfl, g4', hB, hK⟩
      refine ⟨(((p.1.size : Nat) : Int), .nilIface, ()), rfl, ?_⟩
      have oB : Only (fun k => r5 ≤ k) w2' w5 := ⟨hB.os, hB.tape, hB.output, hB.size, fun k _ hk => hB.block k (by have : ¬ r5 ≤ k := hk; omega)⟩
      refine hN' w5 (hRb oB g1) ⟨hRb oB g1, g2.only oB (by show ¬ r5 ≤ r1; omega), g3.only oB (by show ¬ r5 ≤ r2; omega), ?_, fun j q hj hq' => ?_, Only.ext g6 oB (fun j hj => by have : r5 ≤ j := hj; omega), g7, by have := hB.size; omega⟩ hB.size (fun k hk => ?_)
      · have e1 : bytesS S n (i + 1) = bytesS S n i ++ B p.1 := by
          unfold bytesS
          rw [List.take_add_one, ei, List.flatMap_append]
          simp
        rw [e1]
        exact g4'
      · by_cases hji : j = i
        · subst hji
          rw [ei] at hq'
          injection hq' with hq'
          rw [← hq']; exact hq
        · exact g5 j q (by omega) hq'
      · have hk' : V k ∨ k = w4.heap.size ∨ k = w4.heap.size + 1 := by
          rcases hk with e | e | e
          · exact .inr (.inl e)
          · exact .inr (.inr e)
          · exact .inl e
        obtain ⟨v1, v2, v3⟩ := hV2 k hk'
        exact hK k v1 v2 v3
  · rintro V w' ⟨g1, g2, g3, g4, g5, g6, g7, g8⟩ _ hsz hdf
    rw [jumpK]
    refine callW_of (bdstr_calls g4) ?_
    rintro _ w5 ⟨rfl, hB, hK⟩
    refine ⟨_, rfl, ?_⟩
    have oB : Only (fun k => r5 ≤ k) w' w5 := ⟨hB.os, hB.tape, hB.output, hB.size, fun k _ hk => hB.block k (by have : ¬ r5 ≤ k := hk; omega)⟩
    have a1 := g2.only oB (by show ¬ r5 ≤ r1; omega)
    have a2 := g3.only oB (by show ¬ r5 ≤ r2; omega)
    have hx5 := Only.ext g6 oB (fun j hj => by have : r5 ≤ j := hj; omega)
    have hdf5 : w5.heap[w4.heap.size]? = some (.deferred (some [])) := by
      rw [hK w4.heap.size (by omega) (by omega) (fun o ho c fz e => by rw [hdf] at ho; injection ho with ho; rw [← ho] at e; cases e)]
      exact hdf
    refine stW_blk a1 (by show 0 < 1; omega) ?_
    have b1 := a1.set 0 (.string (mkB (bytesS S n (pairV (partsS S n)).length)))
    have b2 := a2.other (p := ⟨r1, 0, none⟩) (by show r1 ≠ r2; omega) (.string (mkB (bytesS S n (pairV (partsS S n)).length)))
    refine stW_blk b2 (by show 0 < 1; omega) ?_
    have c1 := b1.other (p := ⟨r2, 0, none⟩) (by show r2 ≠ r1; omega) (.int .i64 0)
    have c2 := b2.set 0 (.int .i64 0)
    refine leave_i ?_ ?_
    · rw [Below.heap_setCell _ _ _ _ (by show w4.heap.size ≠ r2; omega), Below.heap_setCell _ _ _ _ (by show w4.heap.size ≠ r1; omega)]
      exact hdf5
    have hxx := (hx5.set (p := ⟨r1, 0, none⟩) (by show w.heap.size ≤ r1; omega) (.string (mkB (bytesS S n (pairV (partsS S n)).length)))).set (p := ⟨r2, 0, none⟩) (by show w.heap.size ≤ r2; omega) (.int .i64 0)
    have hsb := sameBut_setO (a := w4.heap.size) (b := w4.heap.size + 1) (w := (w5.setCell ⟨r1, 0, none⟩ (.string (mkB (bytesS S n (pairV (partsS S n)).length)))).setCell ⟨r2, 0, none⟩ (.int .i64 0)) (o := .deferred none) (.inl rfl)
    refine ldW_blk (x := mkB (bytesS S n (pairV (partsS S n)).length)) (hsb.blk c1 (by omega)) (by rfl) (ldW_blk (x := (0 : Int)) (hsb.blk c2 (by omega)) (by rfl) ?_)
    refine ⟨?_, hsb.ext hxx (by omega)⟩
    unfold bgetS
    rw [find_none (fun j q hq => g5 j q (by rw [pairV_length]; exact (List.getElem?_eq_some_iff.1 hq).1) hq)]
    unfold bytesS
    rw [pairV_length, List.take_length]
  · rintro V c w' ⟨rfl, e, g1, g2, g3, g6, g7, g8⟩ hsz hdf
    rw [jumpK]
    refine leave_i hdf ?_
    have hsb := sameBut_setO (a := w4.heap.size) (b := w4.heap.size + 1) (w := w') (o := .deferred none) (.inl rfl)
    refine ldW_blk (x := ByteArray.empty) (hsb.blk g1 (by omega)) (by rfl) (ldW_blk (x := e) (hsb.blk g2 (by omega)) (by rfl) ?_)
    rw [g3]
    exact ⟨rfl, hsb.ext g6 (by omega)⟩
/-! ### Parts -/
def okS (S : Spa) (n : Nat) : List ByteArray := ((partsS S n).takeWhile fun p => decide (p.2 = 0)).map (·.1)
def strsV (l : List ByteArray) : List (List Value) := l.map fun s => [.string s]
theorem takeW_get {l : List (ByteArray × Int)} : ∀ {i : Nat} {p : ByteArray × Int}, l[i]? = some p → (∀ (j : Nat) (q : ByteArray × Int), j ≤ i → l[j]? = some q → q.2 = 0) → ((l.takeWhile fun p => decide (p.2 = 0)).map (·.1))[i]? = some p.1 := by
  induction l with
  | nil => intro i p h; simp at h
  | cons a t ih =>
    intro i p h hall
    have h0 := hall 0 a (by omega) rfl
    rw [List.takeWhile_cons, if_pos (decide_eq_true h0)]
    cases i with
    | zero => simp at h; subst h; rfl
    | succ i => exact ih (i := i) (by simpa using h) (fun j q hj hq => hall (j + 1) q (by omega) (by simpa using hq))
theorem takeW_len {l : List (ByteArray × Int)} : ∀ {i : Nat} {p : ByteArray × Int}, l[i]? = some p → p.2 ≠ 0 → (∀ (j : Nat) (q : ByteArray × Int), j < i → l[j]? = some q → q.2 = 0) → (l.takeWhile fun p => decide (p.2 = 0)).length = i := by
  induction l with
  | nil => intro i p h; simp at h
  | cons a t ih =>
    intro i p h hne hall
    cases i with
    | zero => simp at h; subst h; rw [List.takeWhile_cons, if_neg (by simpa using hne)]; rfl
    | succ i =>
      have h0 := hall 0 a (by omega) rfl
      rw [List.takeWhile_cons, if_pos (decide_eq_true h0), List.length_cons, ih (i := i) (by simpa using h) hne (fun j q hj hq => hall (j + 1) q (by omega) (by simpa using hq))]
theorem takeW_all {l : List (ByteArray × Int)} (hall : ∀ (j : Nat) (q : ByteArray × Int), l[j]? = some q → q.2 = 0) : (l.takeWhile fun p => decide (p.2 = 0)) = l := by
  induction l with
  | nil => rfl
  | cons a t ih =>
    rw [List.takeWhile_cons, if_pos (decide_eq_true (hall 0 a rfl)), ih (fun j q hq => hall (j + 1) q (by simpa using hq))]
theorem Parts_calls (h : SpM w b db S F Fd x hb hr nb nr m) {n : Nat} (hn : n < 4294967296) :
    Calls Tryz.prog 20 #[.pointer (some ⟨b, 0, none⟩), .int .u32 (n : Int)] w (Ret fun v w' => ∃ (Q : Nat → Prop) (R0 : WP), (∃ f cap, v = .func f #[] cap) ∧ IterV Tryz.prog v (strsV (okS S n)) (RSp b db S F Fd x hb hr nb nr m) Q R0 (fun _ => True) (fun _ _ => True) ∧ R0 w' ∧ (∀ w1 w2, R0 w1 → Ext w1 w2 → R0 w2) ∧ (∀ k, Q k → k < w'.heap.size) ∧ (∀ k, Q k → w.heap.size ≤ k) ∧ Ext w w') := by
  have hFlt := h.lt
  apply calls20
  unfold S20
  refine new_i fun r1 w1 hb1 he1 hr1 hz1 => ?_
  refine new_i fun r2 w2 hb2 he2 hr2 hz2 => ?_
  have he := he1.trans he2
  have hs1 := he1.size
  refine ⟨fun k => k = r1 ∨ k = r2, Two b n r1 r2, ⟨_, _, rfl⟩, ?_, ⟨hb1.ext he2, hb2⟩, fun w1 w2 h1 h2 => ⟨h1.1.ext h2, h1.2.ext h2⟩, fun k hk => by rcases hk with rfl | rfl <;> omega, fun k hk => by rcases hk with rfl | rfl <;> omega, he⟩
  refine ⟨_, _, rfl, by kernel_rfl, fun l J E wc hJ0 hQc hR0c hJR hJs hEs hY => ?_⟩
  apply calls46
  unfold S46
  obtain ⟨k1, k2⟩ := hR0c
  refine new_i fun ry w3 hby he3 hry hzy => ?_
  have hS3 : SpM w3 b db S F Fd x hb hr nb nr m := SpM.ext (hJR _ _ _ hJ0) he3
  refine ldW_blk (x := some ⟨b, 0, none⟩) (k1.ext he3) (by rfl) (ldW_blk (x := (n : Int)) (k2.ext he3) (by rfl) ?_)
  refine callW_of (parts_calls hS3 hn) ?_
  rintro v w4 ⟨Q', R0', hit, hR0', hRx', hQl', hQ', he4⟩
  refine ⟨v, rfl, ?_⟩
  have he34 := he3.trans he4
  have h34 := he4.size
  have hcs := he3.size
  have hQr : r1 < wc.heap.size ∧ r2 < wc.heap.size := ⟨hQc r1 (.inl rfl), hQc r2 (.inr rfl)⟩
  have hRst : ∀ {w1 w2 : World}, RSp b db S F Fd x hb hr nb nr m w1 → Ext w1 w2 → RSp b db S F Fd x hb hr nb nr m w2 := fun h e => SpM.ext h e
  have hFw : ∀ j, F j → j < w.heap.size := hFlt
  have hsame : ∀ {w' w'' : World}, SameBut w4.heap.size (w4.heap.size + 1) w' w'' → RSp b db S F Fd x hb hr nb nr m w' → RSp b db S F Fd x hb hr nb nr m w'' := fun hs hS =>
    SpM.sameBut hS hs (fun hf => by have := hFw _ hf; omega) (fun hf => by have := hFw _ hf; omega)
  let VO : (Nat → Prop) → Nat → Prop := fun V k => (k = r1 ∨ k = r2) ∨ V k ∨ k = ry ∨ k = w4.heap.size ∨ k = w4.heap.size + 1
  have hokl : (strsV (okS S n)).length = ((partsS S n).takeWhile fun p => decide (p.2 = 0)).length := by simp [strsV, okS]
  have hel : ∀ i, i < (partsS S n).length → (partsS S n)[i]? = some ((partsS S n).getD i (ByteArray.empty, 0)) := fun i hi => by rw [List.getD_eq_getElem?_getD, List.getElem?_eq_getElem hi]; rfl
  have fin : ∀ {V : Nat → Prop} {w' : World}, (J (VO V) (strsV (okS S n)).length w' ∨ E (VO V) w') → (∀ k, V k → wc.heap.size ≤ k) → w'.heap[w4.heap.size]? = some (.deferred (some [])) → RSp b db S F Fd x hb hr nb nr m w' ∨ True →
      leaveW Tryz.prog (⟨.collected w4.heap.size, #[]⟩ :: []) (fun w'' => ∃ V : Nat → Prop, (J V (strsV (okS S n)).length w'' ∧ (∀ k, V k → (k = r1 ∨ k = r2) ∨ wc.heap.size ≤ k) ∧ True) ∨ E V w'') w' := by
    intro V w' hJE hVc hdf _
    refine leave_i hdf ⟨VO V, ?_⟩
    have oS : Only (VO V) w' (setO w' w4.heap.size (.deferred none)) := Only.setO (.inr (.inr (.inr (.inl rfl))))
    rcases hJE with hJ' | hE'
    · refine .inl ⟨hJs _ _ _ _ _ hJ' oS (fun k hk => .inl hk) (hsame (sameBut_setO (.inl rfl)) (hJR _ _ _ hJ')), fun k hk => ?_, trivial⟩
      rcases hk with hk | hk | rfl | rfl | rfl
      · exact .inl hk
      · exact .inr (hVc k hk)
      · right; omega
      · right; omega
      · right; omega
    · exact .inr (hEs _ _ _ _ hE' oS (fun k hk => .inl hk))
  refine rangeV_i (fun i => (((partsS S n).getD i (ByteArray.empty, 0)).1, ((partsS S n).getD i (ByteArray.empty, 0)).2, ())) ?_
    (fun V i w' => Two b n r1 r2 w' ∧ Blk w' ry [.func (.yield l) #[] #[]] 95 ∧ (∀ j q, j < i → (partsS S n)[j]? = some q → q.2 = 0) ∧ J (VO V) i w' ∧ (∀ k, V k → ry < k) ∧ w4.heap.size ≤ w'.heap.size)
    (fun V c w' => c = .exit 0 ∧ (J (VO V) (strsV (okS S n)).length w' ∨ E (VO V) w') ∧ (∀ k, V k → ry < k) ∧ w4.heap.size ≤ w'.heap.size)
    hit hQl' (fun w' w'' hs hS => hsame hs hS) (fun _ _ _ _ => trivial) ?_ ?_ ?_ ?_ ?_ ?_ ?_ ?_
  · intro i hi
    have hi' : i < (partsS S n).length := by rw [pairV_length] at hi; exact hi
    simp [pairV, hi']
  · intro V i w' hI
    exact hJR _ _ _ hI.2.2.2.1
  · rintro V V' i w' w'' ⟨g1, g2, g3, g4, g5, g6⟩ hO hV hR
    have hno : ∀ k, k ≤ ry → ¬ (V k ∨ k = w4.heap.size ∨ k = w4.heap.size + 1) := fun k hk hh => by
      rcases hh with hh | hh | hh
      · have := g5 k hh; omega
      · omega
      · omega
    refine ⟨⟨g1.1.only hO (hno r1 (by omega)), g1.2.only hO (hno r2 (by omega))⟩, g2.only hO (hno ry (by omega)), g3, hJs _ _ _ _ _ g4 (hO.mono (fun k hk => ?_)) (fun k hk => ?_) hR, fun k hk => ?_, by have := hO.2.2.2.1; omega⟩
    · rcases hk with hk | hk | hk
      · exact .inr (.inl hk)
      · exact .inr (.inr (.inr (.inl hk)))
      · exact .inr (.inr (.inr (.inr hk)))
    · rcases hk with hk | hk | hk
      · exact .inl (.inl hk)
      · rcases hV k hk with e | e
        · exact .inl (.inr (.inl e))
        · exact .inr e
      · exact .inl (.inr (.inr hk))
    · rcases hV k hk with e | e
      · exact g5 k e
      · omega
  · rintro V V' c w' w'' ⟨rfl, g4, g5, g6⟩ hO hV
    have hOV : Only (VO V) w' w'' := hO.mono (fun k hk => by
      rcases hk with hk | hk | hk
      · exact .inr (.inl hk)
      · exact .inr (.inr (.inr (.inl hk)))
      · exact .inr (.inr (.inr (.inr hk))))
    have hVV : ∀ k, VO V' k → VO V k ∨ w'.heap.size ≤ k := fun k hk => by
      rcases hk with hk | hk | hk
      · exact .inl (.inl hk)
      · rcases hV k hk with e | e
        · exact .inl (.inr (.inl e))
        · exact .inr e
      · exact .inl (.inr (.inr hk))
    refine ⟨rfl, ?_, fun k hk => ?_, by have := hO.2.2.2.1; omega⟩
    · rcases g4 with g4 | g4
      · left
        refine hJs _ _ _ _ _ g4 hOV hVV ?_
        refine SpM.only (hJR _ _ _ g4) hO (fun j hj hk => ?_)
        have := hFw j hj
        rcases hk with hk | hk | hk
        · have := g5 j hk; omega
        · omega
        · omega
      · exact .inr (hEs _ _ _ _ g4 hOV hVV)
    · rcases hV k hk with e | e
      · exact g5 k e
      · omega
  · intro o
    have hx : Ext w4 ((w4.alloc (.deferred (some []))).alloc o) := ((Ext.refl w4).alloc _).alloc _
    have hxx := he34.trans hx
    refine ⟨⟨k1.ext hxx, k2.ext hxx⟩, (hby.ext he4).ext hx, fun j q hj => by omega, hJs _ _ _ _ _ hJ0 (Only.of_ext hxx) (fun k hk => ?_) (hRst (hJR _ _ _ hJ0) hxx), fun k hk => by have := hQ' k hk; omega, hx.size⟩
    rcases hk with hk | hk | rfl | rfl | rfl
    · exact .inl hk
    · right; have := hQ' k hk; omega
    · right; omega
    · right; omega
    · right; omega
  · intro o
    exact hRx' _ _ hR0' (((Ext.refl w4).alloc _).alloc _)
  · rintro V i hi w' G N jump hI hsz hV hVb hG
    have hi' : i < (partsS S n).length := by rw [pairV_length] at hi; exact hi
    have ei := hel i hi'
    generalize (partsS S n).getD i (ByteArray.empty, 0) = p at *
    refine hG _ w' hI (Nat.le_refl _) (fun _ _ => rfl) ?_
    rintro w2' ⟨g1, g2, g3, g4, g5, g6⟩ hs2 hk2 hNC hN' hJ'
    dsimp only
    refine splitW_i (fun hq => ?_) (fun hq => ?_)
    · have hq := bne_iff_ne.1 hq
      have hlen : (strsV (okS S n)).length = i := by rw [hokl]; exact takeW_len ei hq (fun j q hj hq' => g3 j q hj hq')
      refine hJ' (.exit 0) w2' ⟨rfl, .inl (by rw [hlen]; exact g4), g5, by omega⟩ (Nat.le_refl _) (fun _ _ => rfl)
    · have hq := bne_eq_false_iff_eq.1 hq
      refine ldW_blk (l := .any) (x := .func (.yield l) #[] #[]) g2 (by rfl) ?_
      have hall : ∀ j q, j ≤ i → (partsS S n)[j]? = some q → q.2 = 0 := fun j q hj hq' => by
        by_cases hji : j = i
        · subst hji
          rw [ei] at hq'
          injection hq' with hq'
          rw [← hq']; exact hq
        · exact g3 j q (by omega) hq'
      have hok := takeW_get ei hall
      have hidx : i < (strsV (okS S n)).length := by
        have := (List.getElem?_eq_some_iff.1 hok).1
        rw [hokl]; simpa using this
      have hel2 : (strsV (okS S n))[i] = [.string p.1] := by
        obtain ⟨h1, h2⟩ := List.getElem?_eq_some_iff.1 hok
        have h3 : (okS S n)[i]'(by simpa [strsV] using hidx) = p.1 := h2
        simp [strsV, h3]
      refine .inr ⟨l, rfl, ?_⟩
      have hy := hY (VO V) i w2' hidx g4 (fun k hk => ?_) (fun _ _ => trivial)
      rotate_left
      · rcases hk with (rfl | rfl) | hk | rfl | rfl | rfl
        · omega
        · omega
        · have := (hV k hk).1; omega
        · omega
        · omega
        · omega
      rw [hel2] at hy
      obtain ⟨fn, tmps, asg, bd, hy1, hy2⟩ := hy
      refine ⟨fn, tmps, asg, bd, hy1, RoundIn.mono hy2 ?_⟩
      rintro (v | cc | _) w6 hvv
      · obtain ⟨a1, a2, ⟨rfl, a3, a4⟩ | ⟨rfl, a3⟩⟩ := hvv
        · refine ⟨true, rfl, splitW_f (by rfl) ?_⟩
          refine hN' w6 a3 ⟨⟨g1.1.at_ (a2 r1 (.inl (.inl rfl))), g1.2.at_ (a2 r2 (.inl (.inr rfl)))⟩, g2.at_ (a2 ry (.inr (.inr (.inl rfl)))), fun j q hj hq' => hall j q (by omega) hq', a4, g5, by omega⟩ a1 (fun k hk => a2 k ?_)
          rcases hk with e | e | e
          · exact .inr (.inr (.inr (.inl e)))
          · exact .inr (.inr (.inr (.inr e)))
          · exact .inr (.inl e)
        · refine ⟨false, rfl, splitW_t (by rfl) ?_⟩
          refine hJ' (.exit 0) w6 ⟨rfl, .inr a3, g5, by omega⟩ a1 (fun k hk => a2 k ?_)
          rcases hk with e | e | e
          · exact .inr (.inr (.inr (.inl e)))
          · exact .inr (.inr (.inr (.inr e)))
          · exact .inr (.inl e)
      · exact hvv
      · exact hvv
  · rintro V w' ⟨g1, g2, g3, g4, g5, g6⟩ _ hsz hdf
    rw [jumpK]
    have hlen : (strsV (okS S n)).length = (pairV (partsS S n)).length := by
      rw [hokl, pairV_length, takeW_all (fun j q hq => g3 j q (by rw [pairV_length]; exact (List.getElem?_eq_some_iff.1 hq).1) hq)]
    exact fin (V := V) (.inl (by rw [hlen]; exact g4)) (fun k hk => by have := g5 k hk; omega) hdf (.inr trivial)
  · rintro V c w' ⟨rfl, g4, g5, g6⟩ hsz hdf
    rw [jumpK]
    exact fin (V := V) g4 (fun k hk => by have := g5 k hk; omega) hdf (.inr trivial)
end Go.Proofs.YtcjobbcijbkjkaaGreat.V

/- Spaces that are well: commit, Format. -/
set_option linter.unusedVariables false
set_option linter.unusedSimpArgs false
namespace Go.Proofs.YtcjobbcijbkjkaaGreat.V
open Go Go.Proofs Go.RowKit Crc

structure DevG (d : Dev) : Prop where
  ok : d.Ok
  fuse : d.fuse = -1
theorem Dev.Ok.facts {d : Dev} (h : d.Ok) : ∃ z N : Nat, d.size = (z : Int) ∧ d.blocks = (N : Int) ∧ roomOf d.size = (z : Int) - 16 ∧ 128 ≤ z ∧ z ≤ 4096 ∧ 8 ≤ N ∧ N ≤ 4096 ∧ roomOf d.size = ((2 * perOf d.size : Nat) : Int) := by
  obtain ⟨g1, g2, g3, g4, g5⟩ := geo_room h.geo
  obtain ⟨h8, _⟩ := geo8 h.geo
  have h4 := room_per h8
  exact ⟨d.size.toNat, d.blocks.toNat, by omega, by omega, by omega, by omega, by omega, by omega, by omega, h4⟩
theorem writeF_good {d : Dev} (h : DevG d) {k : Nat} {f : Fra} (hk : (k : Int) < d.blocks) (hf : ((B f.2.2).length : Int) ≤ roomOf d.size) :
    (writeF d k f).2 = 0 ∧ DevG (writeF d k f).1 ∧ (∀ j : Int, 0 ≤ j ∧ j < d.blocks → ((writeF d k f).1.read j).1 = if j = k then mkB (putB d.size.toNat f) else (d.read j).1) := by
  obtain ⟨z, N, e1, e2, e3, e4, e5, e6, e7, e8⟩ := h.ok.facts
  have hputR : putR d.size f = (putB z f, 0) := by
    unfold putR
    rw [if_neg (by omega), if_neg (by omega), e1]
    rfl
  have hl : (putB z f).length = z := putB_length (by omega)
  have hws : (((mkB (putB z f)).size : Nat) : Int) = d.size := by rw [mkB_size, hl, e1]
  have hwf : writeF d k f = d.write k (mkB (putB z f)) := by
    unfold writeF
    rw [hputR, if_neg (by simp)]
  have hk2 : 0 ≤ (k : Int) ∧ (k : Int) < d.blocks := by omega
  obtain ⟨q1, q2, q3⟩ := write_ok h.ok hk2 hws h.fuse
  rw [hwf]
  have hez : d.size.toNat = z := by omega
  rw [hez]
  exact ⟨(read_write h.ok hk2 hws (by rw [h.fuse]; decide) hk2).1, ⟨q1, q2⟩, fun j hj => (read_write h.ok hk2 hws (by rw [h.fuse]; decide) hj).2⟩
theorem flush_good {d : Dev} (h : DevG d) : d.flush.2 = 0 ∧ DevG d.flush.1 ∧ d.flush.1.pen = [] ∧ ∀ j : Int, (d.flush.1.read j).1 = (d.read j).1 := by
  have hok := h.ok
  have hb := hok.burnt
  have hf : max (-1) (d.fuse - 1) = -1 := by rw [h.fuse]; decide
  unfold Dev.flush
  rw [if_neg (by rw [h.fuse]; decide)]
  refine ⟨rfl, ⟨⟨hok.geo, ?_, puts_each _ _ hok.each (fun p hp => (hok.pend p hp).2.2), (fun p hp => by cases hp), hb.fuse⟩, hf⟩, rfl, fun j => rfl⟩
  show (((d.pen.foldl Go.Proofs.YtcjobbcijbkjkaaGreat.V.put d.dur).length : Nat) : Int) = d.blocks
  rw [puts_len]
  exact hok.len
theorem wrL_good : ∀ (l : List (Nat × Fra)) (d : Dev), DevG d → (∀ p ∈ l, (p.1 : Int) < d.blocks ∧ ((B p.2.2.2).length : Int) ≤ roomOf d.size) →
    (wrL d l).2 = 0 ∧ DevG (wrL d l).1 ∧ (∀ j : Int, 0 ≤ j ∧ j < d.blocks → (∀ p ∈ l, (p.1 : Int) ≠ j) → ((wrL d l).1.read j).1 = (d.read j).1)
  | [], d, h, _ => ⟨rfl, h, fun _ _ _ => rfl⟩
  | kf :: r, d, h, hl => by
    obtain ⟨h1, h2⟩ := hl kf List.mem_cons_self
    obtain ⟨g1, g2, g3⟩ := writeF_good h h1 h2
    obtain ⟨d1, d2, d3⟩ := writeF_dim d kf.1 kf.2
    obtain ⟨k1, k2, k3⟩ := wrL_good r (writeF d kf.1 kf.2).1 g2 (fun p hp => by rw [d1, d2]; exact hl p (List.mem_cons_of_mem _ hp))
    unfold wrL
    rw [if_neg (fun hh => hh g1)]
    refine ⟨k1, k2, fun j hj hno => ?_⟩
    rw [k3 j (by rw [d2]; exact hj) (fun p hp => hno p (List.mem_cons_of_mem _ hp)), g3 j hj, if_neg (fun e => hno kf List.mem_cons_self e.symm)]
theorem pageB_len (l : List Nat) (per i : Nat) : (pageB l per i).length ≤ 2 * per := by
  unfold pageB
  have : ∀ l : List Nat, (l.flatMap (le 2)).length = 2 * l.length := by
    intro l
    induction l with
    | nil => rfl
    | cons a t ih => rw [List.flatMap_cons, List.length_append, ih, le_length, List.length_cons]; omega
  rw [this, List.length_take]
  omega
theorem commit_good {d : Dev} (h : DevG d) {c : List Nat} {s : Sup} {slot : Int} (hchk : chk s = 0) (hsz : s.size = d.size) (hps : ∀ p ∈ s.pages, 2 ≤ p ∧ (p : Int) < d.blocks) (hslot : slot = 0 ∨ slot = 1) :
    (commitD d c s slot).2 = 0 ∧ DevG (commitD d c s slot).1 ∧ (commitD d c s slot).1.pen = [] ∧ (∀ j : Int, 2 ≤ j ∧ j < d.blocks → (∀ p ∈ s.pages, (p : Int) ≠ j) → ((commitD d c s slot).1.read j).1 = (d.read j).1) := by
  obtain ⟨z, N, e1, e2, e3, e4, e5, e6, e7, e8⟩ := h.ok.facts
  have hL : ∀ p ∈ pgFs s.gen s.pages (pagesL c (perOf d.size)), p.1 ∈ s.pages ∧ ((B p.2.2.2).length : Int) ≤ roomOf d.size := by
    intro p hp
    unfold pgFs at hp
    obtain ⟨q, hq, rfl⟩ := List.mem_map.1 hp
    have h1 := (List.of_mem_zip hq).1
    have h2 := (List.of_mem_zip hq).2
    refine ⟨h1, ?_⟩
    unfold pagesL at h2
    obtain ⟨i, _, hi⟩ := List.mem_map.1 h2
    show ((B q.2).length : Int) ≤ _
    rw [← hi, B_mk]
    have := pageB_len c (perOf d.size) i
    omega
  obtain ⟨w1, w2, w3⟩ := wrL_good (pgFs s.gen s.pages (pagesL c (perOf d.size))) d h (fun p hp => ⟨(hps _ (hL p hp).1).2, (hL p hp).2⟩)
  obtain ⟨dm1, dm2, dm3⟩ := wrL_dim (pgFs s.gen s.pages (pagesL c (perOf d.size))) d
  obtain ⟨f1, f2, f3, f4⟩ := flush_good w2
  have fd := flush_dim (wrL d (pgFs s.gen s.pages (pagesL c (perOf d.size)))).1
  unfold commitD
  generalize (wrL d (pgFs s.gen s.pages (pagesL c (perOf d.size)))) = r at *
  have hp0 : (putS s).2 = 0 := by rw [putS_good hchk]
  have hpl := (putS_length hchk).1
  have hs2 : ((((mkB (putS s).1).size : Nat)) : Int) = r.1.flush.1.size := by rw [mkB_size, hpl, fd.1, dm1, hsz]
  have hsl : 0 ≤ slot ∧ slot < r.1.flush.1.blocks := by rw [fd.2.1, dm2]; omega
  obtain ⟨q1, q2, q3⟩ := write_ok f2.ok hsl hs2 f2.fuse
  have hrw := fun (j : Int) (hj : 0 ≤ j ∧ j < r.1.flush.1.blocks) => read_write f2.ok hsl hs2 (by rw [f2.fuse]; decide) (j := j) hj
  have hw0 := (hrw slot hsl).1
  have hwd := write_dim r.1.flush.1 slot (mkB (putS s).1)
  obtain ⟨y1, y2, y3, y4⟩ := flush_good (d := (r.1.flush.1.write slot (mkB (putS s).1)).1) ⟨q1, q2⟩
  rw [if_neg (fun hh => hh w1), if_neg (fun hh => hh f1), if_neg (fun hh => hh hp0), if_neg (fun hh => hh hw0)]
  refine ⟨y1, y2, y3, fun j hj hno => ?_⟩
  rw [y4 j, (hrw j (by rw [fd.2.1, dm2]; omega)).2, if_neg (by omega), f4 j, w3 j (by omega) (fun p hp => hno p.1 (hL p hp).1)]
theorem pagesOf_cuts {size : Int} {N : Nat} (h : geoOK size N = true) : pagesOf size N = ((fmtN size N : Nat) : Int) := by
  obtain ⟨h8, n, hn, h1, h2⟩ := geo8 h
  obtain ⟨hp1, hp2, _⟩ := perOf_spec h8
  unfold pagesOf fmtN cutsN
  rw [if_pos h, room_per h8]
  rw [show (2 : Int) * (N : Int) + ((2 * perOf size : Nat) : Int) - 1 = ((2 * N + 2 * perOf size - 1 : Nat) : Int) by omega, ← Int.natCast_ediv]
  congr 1
  rw [← Nat.div_div_eq_div_mul]
  congr 1
  omega
theorem chk_fmt {size : Int} {N : Nat} (h : geoOK size N = true) : chk (fmtS size N) = if 14 + 4 * ((fmtN size N : Nat) : Int) > roomOf size then 3 else 0 := by
  have hn := fmtN_le h
  have hl : (fmtS size N).pages.length = fmtN size N := fmtP_length _
  have hget : ∀ j, j < fmtN size N → (fmtS size N).pages.getD j 0 = j + 2 := fun j hj => by
    show (fmtP (fmtN size N)).getD j 0 = _
    unfold fmtP
    simp [List.getD_eq_getElem?_getD, hj]
  rw [chk_long]
  · rw [hl]; rfl
  · exact ⟨h, (show (1 : Nat) ≠ 0 by decide), .inl rfl, by rw [hl]; exact (pagesOf_cuts h).symm⟩
  · intro j hj
    rw [hl] at hj
    refine ⟨?_, ?_, ?_⟩
    · rw [hget j hj]
      unfold pageOK
      rw [decide_eq_true]
      exact ⟨by omega, by show ((j + 2 : Nat) : Int) < (N : Int); omega⟩
    · rw [hget j hj]; show j + 2 ≠ 0; omega
    · rw [hget j hj]
      intro hm
      have hm : j + 2 ∈ (fmtP (fmtN size N)).take j := hm
      unfold fmtP at hm
      rw [← List.map_take, List.take_range] at hm
      obtain ⟨i, hi, e⟩ := List.mem_map.1 hm
      have := List.mem_range.1 hi
      omega
theorem format_good {d : Dev} (h : DevG d) (hchk : chk (fmtS d.size d.blocks.toNat) = 0) : (formatD d).2 = 0 ∧ Good (formatS d) [] ∧ (formatS d).dev.pen = [] := by
  obtain ⟨z, N, e1, e2, e3, e4, e5, e6, e7, e8⟩ := h.ok.facts
  have hN : d.blocks.toNat = N := by omega
  have hg : geoOK d.size (N : Int) = true := by rw [← e2]; exact h.ok.geo
  obtain ⟨n1, n2, n3⟩ := fmtN_le hg
  rw [hN] at hchk
  have hz : (((zeroB d.size.toNat).size : Nat) : Int) = d.size := by rw [zeroB_size]; omega
  have h1 : 0 ≤ (1 : Int) ∧ (1 : Int) < d.blocks := by omega
  obtain ⟨q1, q2, q3⟩ := write_ok h.ok h1 hz h.fuse
  have hw0 := (read_write h.ok h1 hz (by rw [h.fuse]; decide) h1).1
  have hwd := write_dim d 1 (zeroB d.size.toNat)
  have hpages : ∀ p ∈ fmtP (fmtN d.size N), 2 ≤ p ∧ p < N := fun p hp => by
    unfold fmtP at hp
    obtain ⟨i, hi, rfl⟩ := List.mem_map.1 hp
    have := List.mem_range.1 hi
    omega
  obtain ⟨c1, c2, c3, c4⟩ := commit_good (d := (d.write 1 (zeroB d.size.toNat)).1) ⟨q1, q2⟩ (c := fmtC N (fmtN d.size N)) (s := fmtS d.size N) (slot := 0) hchk hwd.1.symm (fun p hp => by have := hpages p hp; rw [hwd.2.1]; omega) (.inl rfl)
  have eD : formatD d = commitD (d.write 1 (zeroB d.size.toNat)).1 (fmtC N (fmtN d.size N)) (fmtS d.size N) 0 := by
    unfold formatD
    rw [hN, if_neg (fun hh => hh hchk), if_neg (fun hh => hh hw0)]
  have dm := commitD_dim (d.write 1 (zeroB d.size.toNat)).1 (fmtC N (fmtN d.size N)) (fmtS d.size N) 0
  have eS : formatS d = ⟨(formatD d).1, fmtS d.size N, 0, fmtC N (fmtN d.size N), fmtC N (fmtN d.size N), none⟩ := by unfold formatS; rw [hN]
  rw [eS, eD]
  refine ⟨c1, ⟨⟨(dm.1.trans hwd.1).symm, ?_, fmtS_fits hg, ?_, ?_, fun l hl => by cases hl⟩, c2.ok, c2.fuse, by show 1 < _; decide, ?_⟩, c3⟩
  · show (N : Int) = _
    rw [dm.2, hwd.2.1, e2]
  · show (fmtC N (fmtN d.size N)).length = ((N : Int)).toNat
    rw [fmtC_length n1]; omega
  · show (fmtC N (fmtN d.size N)).length = ((N : Int)).toNat
    rw [fmtC_length n1]; omega
  · show WellC ((N : Int)).toNat (fmtP (fmtN d.size N)) _ (fmtC N (fmtN d.size N)) []
    have hget := fun k => fmtC_get (N := N) (np := fmtN d.size N) (k := k) n1
    have hnone : ∀ k, usedC (fmtP (fmtN d.size N)) (fmtC N (fmtN d.size N)) k = false := fun k => by
      cases hq : usedC (fmtP (fmtN d.size N)) (fmtC N (fmtN d.size N)) k with
      | false => rfl
      | true =>
        obtain ⟨a1, a2, a3⟩ := usedC_iff.1 hq
        rw [hget k] at a3
        split at a3
        · exfalso
          apply a2
          unfold fmtP
          exact List.mem_map.2 ⟨k - 2, List.mem_range.2 (by omega), by omega⟩
        · omega
    refine ⟨by rw [fmtC_length n1]; omega, by omega, ⟨by rw [hget, if_pos (by omega)], by rw [hget, if_pos (by omega)]⟩, fun p hp => ?_, by simp, (fun n hn => by rw [hnone] at hn; cases hn), ⟨fun _ => 0, (fun n hn => by rw [hnone] at hn; cases hn)⟩, fun n h2 hp => ?_⟩
    · have := hpages p hp
      refine ⟨this.1, by omega, ?_⟩
      unfold fmtP at hp
      obtain ⟨i, hi, rfl⟩ := List.mem_map.1 hp
      have := List.mem_range.1 hi
      rw [hget, if_pos (by omega)]
    · have hz0 : sumC ((N : Int)).toNat (fmtP (fmtN d.size N)) (Spa.page ⟨(commitD (d.write 1 (zeroB d.size.toNat)).1 (fmtC N (fmtN d.size N)) (fmtS d.size N) 0).1, fmtS d.size N, 0, fmtC N (fmtN d.size N), fmtC N (fmtN d.size N), none⟩) (fmtC N (fmtN d.size N)) n = 0 := by
        unfold sumC
        rw [sum_congr (g := fun _ => 0) (fun m _ => by unfold refC; rw [hnone]; rfl)]
        exact sum_zeros _
      have e0 : (fmtC N (fmtN d.size N)).getD n 0 = 0 := by
        rw [hget, if_neg]
        intro hlt
        apply hp
        show n ∈ fmtP (fmtN d.size N)
        unfold fmtP
        exact List.mem_map.2 ⟨n - 2, List.mem_range.2 (by omega), by omega⟩
      rw [e0, List.count_nil, Nat.zero_add]
      exact hz0.symm
end Go.Proofs.YtcjobbcijbkjkaaGreat.V

/- Blobs: what they tell. -/
set_option linter.unusedVariables false
set_option linter.unusedSimpArgs false
namespace Go.Proofs.YtcjobbcijbkjkaaGreat.V
open Go Go.Proofs Go.RowKit Crc

/-- A blob, by its pages alone. -/
structure BlobPg (S : Spa) (n : Nat) (b : ByteArray) (ks : List Nat) : Prop where
  idx : S.page n = (((6 : UInt8), ks, mkB (le 4 b.size)), 0)
  len : ks.length = nparts S.r0 b.size
  data : ∀ i, i < ks.length → S.page (ks.getD i 0) = (((7 : UInt8), [], part S.r0 b i), 0)
  most : b.size ≤ mostB S.r0
theorem BlobPg.blob {S : Spa} {R : List Nat} {n : Nat} {b : ByteArray} {ks : List Nat} (h : BlobPg S n b ks) (hg : Good S R) (hn : usedC S.sup.pages S.now n = true) : Blob S n b ks := by
  have hk : ∀ k ∈ ks, usedC S.sup.pages S.now k = true := fun k hk => (hg.well.good n hn).2 k (by unfold kidsP; rw [h.idx]; exact hk)
  refine ⟨by rw [(hg.get hn).1]; exact h.idx, h.len, fun i hi => ?_, h.most⟩
  have hm : ks.getD i 0 ∈ ks := by rw [List.getD_eq_getElem?_getD, List.getElem?_eq_getElem hi]; exact List.getElem_mem hi
  rw [(hg.get (hk _ hm)).1]
  exact h.data i hi
theorem BlobPg.keep {S S' : Spa} {n : Nat} {b : ByteArray} {ks : List Nat} (h : BlobPg S n b ks) (hr : S'.r0 = S.r0) (hp : ∀ k, k = n ∨ k ∈ ks → S'.page k = S.page k) : BlobPg S' n b ks := by
  refine ⟨by rw [hp n (.inl rfl)]; exact h.idx, by rw [hr]; exact h.len, fun i hi => ?_, by rw [hr]; exact h.most⟩
  have hm : ks.getD i 0 ∈ ks := by rw [List.getD_eq_getElem?_getD, List.getElem?_eq_getElem hi]; exact List.getElem_mem hi
  rw [hp _ (.inr hm), hr]
  exact h.data i hi
/-- What a blob's Put leaves: the blob, and the other pages as they were. -/
structure PutB (S S2 : Spa) (R : List Nat) (bs : ByteArray) (n : Nat) (ks : List Nat) : Prop where
  good : Good S2 (n :: R)
  sup : S2.sup = S.sup
  held : S2.held = S.held
  mark : S2.mark = S.mark
  slot : S2.slot = S.slot
  blob : BlobPg S2 n bs ks
  two : 2 ≤ n
  lt : n < S.N
  page : ∀ k, usedC S.sup.pages S.now k = true → S2.page k = S.page k
  fresh : S.now.getD n 0 = 0
  one : S2.now.getD n 0 = 1
  now : ∀ k, usedC S.sup.pages S.now k = true → S2.now.getD k 0 = S.now.getD k 0
  free : S.freeN = S2.freeN + nparts S.r0 bs.size + 1
  freeL : S.freeL = ks ++ n :: S2.freeL
  klen : ks.length = nparts S.r0 bs.size
  pen : S2.dev.pen.length = S.dev.pen.length + nparts S.r0 bs.size + 1
  kept : Kept S S2
theorem putB_of {S S1 S2 : Spa} {R ks : List Nat} {bs : ByteArray} {n : Nat} (h0 : Good S R) (hm : bs.size ≤ mostB S.r0) (hP : Puts S S1 R ks (dataP S.r0 bs (nparts S.r0 bs.size))) (hO : PutOk S1 S2 ((6 : UInt8), ks, mkB (le 4 bs.size)) n) (hg : Good S2 (n :: R)) : PutB S S2 R bs n ks := by
  have hr1 : S1.r0 = S.r0 := by unfold Spa.r0 Spa.room; rw [hP.sup]
  have hr2 : S2.r0 = S.r0 := by unfold Spa.r0 Spa.room; rw [hO.sup, hP.sup]
  have hkl : ks.length = nparts S.r0 bs.size := by rw [← hP.len]; simp [dataP]
  have hmem : ∀ i, i < ks.length → ks.getD i 0 ∈ ks := fun i hi => by rw [List.getD_eq_getElem?_getD, List.getElem?_eq_getElem hi]; exact List.getElem_mem hi
  have hnk : n ∉ ks := fun hk => by
    have hf := (isFree_iff.1 hO.free).1
    rw [hP.now n, if_pos hk] at hf
    cases hf
  have hfr := isFree_iff.1 hO.free
  have hn0 : S.now.getD n 0 = 0 := by
    have := hP.now n
    rw [if_neg hnk] at this
    omega
  have huk : ∀ k, usedC S.sup.pages S.now k = true → k ∉ ks ∧ k ≠ n ∧ k < S.N := fun k hu => by
    have hpos := (usedC_iff.1 hu).2.2
    refine ⟨fun hk => ?_, fun e => ?_, h0.well.lt hu⟩
    · have := (isFree_iff.1 (hP.mem hk).2.2.1).1; omega
    · rw [e] at hpos; omega
  have hN1 := hP.N
  have hnl : n < S1.now.length := by rw [hP.good.ok.now]; exact hO.lt
  refine ⟨hg, hO.sup.trans hP.sup, hO.held.trans hP.held, hO.mark.trans hP.mark, hO.slot.trans hP.slot, ⟨hO.page, by rw [hr2]; exact hkl, fun i hi => ?_, by rw [hr2]; exact hm⟩, hO.two, by rw [← hN1]; exact hO.lt, fun k hu => ?_, hn0, by rw [hO.now, getD_setN, if_pos ⟨rfl, hnl⟩], fun k hu => ?_, ?_, ?_, ?_, ?_, ⟨hO.sup.trans hP.sup, hO.held.trans hP.held, hO.mark.trans hP.mark, hO.slot.trans hP.slot, ⟨hO.dim.1.trans hP.dim.1, hO.dim.2.trans hP.dim.2⟩, fun k h0 hk hf => ?_⟩⟩
  · have hmi := hmem i hi
    rw [hO.other _ (fun e => hnk (e ▸ hmi)) (by rw [hN1]; exact (hP.mem hmi).2.1), hP.page i hi, hr2]
    unfold dataP
    rw [List.getD_eq_getElem?_getD, List.getElem?_map, List.getElem?_range (by omega)]
    rfl
  · obtain ⟨a1, a2, a3⟩ := huk k hu
    rw [hO.other k a2 (by rw [hN1]; exact a3), hP.other k a3 a1]
  · obtain ⟨a1, a2, a3⟩ := huk k hu
    rw [hO.now, getD_setN, if_neg (fun e => a2 e.1.symm), hP.now k, if_neg a1]
  · unfold Spa.freeN
    rw [hP.free, hO.freeL, List.length_append, List.length_cons]
    omega
  · rw [hP.free, hO.freeL]
  · exact hkl
  · rw [hO.pen, hP.pen]; omega
  · rw [hO.read k h0 (by rw [hN1]; exact hk) (fun e => ?_)]
    · exact hP.kept.read k h0 hk hf
    · have e : k.toNat = n := by omega
      rw [e] at hf
      rcases hf with hf | hf
      · have := hO.two; omega
      · rw [isFree_iff.2 ⟨hn0, by rw [← hP.held]; exact hfr.2.1, by rw [← hP.mark]; exact hfr.2.2⟩] at hf
        cases hf
/-! ### Read again -/
theorem lev4' {n : Nat} (h : n ≤ 65536) : lev (B (mkB (le 4 n))) = n := by rw [B_mkB]; exact lev4 (by omega)
theorem Blob.idxS {S : Spa} {n : Nat} {b : ByteArray} {ks : List Nat} (h : Blob S n b ks) : idxS S n = (b.size, ks, 0) := by
  have hb : b.size ≤ 65536 := by have := h.most; unfold mostB at this; omega
  unfold V.idxS
  rw [h.idx]
  dsimp only
  rw [if_neg (by simp), if_neg (by simp), if_neg (by rw [mkB_size, le_length]; simp), lev4' hb, if_neg (by rw [h.len]; omega)]
theorem goS_blob {S : Spa} {n : Nat} {b : ByteArray} {ks : List Nat} (h : Blob S n b ks) (hr : 1 ≤ S.r0) : ∀ (j i : Nat), i + j = ks.length → goS S (b.size - i * S.r0) (ks.drop i) = (List.range j).map fun t => (part S.r0 b (i + t), (0 : Int))
  | 0, i, hi => by
    rw [List.drop_of_length_le (by omega)]
    simp [goS]
  | j + 1, i, hi => by
    have hil : i < ks.length := by omega
    have hd := h.data i hil
    have e : ks.drop i = ks.getD i 0 :: ks.drop (i + 1) := by
      rw [List.drop_eq_getElem_cons hil, List.getD_eq_getElem?_getD, List.getElem?_eq_getElem hil]
      rfl
    have hp := part_size (r := S.r0) (b := b) (i := i) hr (by rw [← h.len]; exact hil)
    have hpe : partE S (min (b.size - i * S.r0) S.r0) (ks.getD i 0) = 0 := by
      unfold partE
      rw [hd]
      dsimp only
      rw [if_neg (by rintro ⟨_, e | e | e⟩; exact e rfl; simp at e; apply e; rw [hp.1]; exact Nat.min_comm _ _)]
    rw [e, goS, hpe, if_neg (by simp), hd]
    have e2 : b.size - i * S.r0 - min (b.size - i * S.r0) S.r0 = b.size - (i + 1) * S.r0 := by
      rw [Nat.add_mul, Nat.one_mul]; omega
    rw [e2, goS_blob h hr j (i + 1) (by omega), List.range_succ_eq_map, List.map_cons, List.map_map]
    congr 1
    apply List.map_congr_left
    intro t _
    show (part S.r0 b (i + 1 + t), (0 : Int)) = (part S.r0 b (i + (t + 1)), 0)
    rw [show i + 1 + t = i + (t + 1) by omega]
theorem Blob.parts {S : Spa} {n : Nat} {b : ByteArray} {ks : List Nat} (h : Blob S n b ks) (hr : 1 ≤ S.r0) : partsS S n = (List.range ks.length).map fun t => (part S.r0 b t, (0 : Int)) := by
  unfold partsS
  rw [h.idxS, if_neg (by simp)]
  have := goS_blob h hr ks.length 0 (by omega)
  rw [Nat.zero_mul, Nat.sub_zero, List.drop_zero] at this
  rw [this]
  apply List.map_congr_left
  intro t _
  rw [Nat.zero_add]
theorem Blob.get {S : Spa} {n : Nat} {b : ByteArray} {ks : List Nat} (h : Blob S n b ks) (hr : 1 ≤ S.r0) : bgetS S n = (b, 0) := by
  unfold bgetS
  rw [h.parts hr, find_none (fun j q hq => by
    rw [List.getElem?_map] at hq
    cases hh : (List.range ks.length)[j]? with
    | none => rw [hh] at hq; cases hq
    | some t => rw [hh] at hq; injection hq with hq; rw [← hq])]
  dsimp only
  have e : ((List.range ks.length).map fun t => (part S.r0 b t, (0 : Int))).flatMap (fun p => B p.1) = (List.range ks.length).flatMap fun t => B (part S.r0 b t) := by
    rw [List.flatMap_map]
  rw [e, parts_flat hr b ks.length (by rw [h.len]; exact Nat.le_refl _), List.take_of_length_le]
  · rw [mkB_B]
  · rw [← B_size, h.len]
    unfold nparts
    have := Nat.lt_mul_div_succ (b.size + S.r0 - 1) (show 0 < S.r0 by omega)
    rw [Nat.mul_comm, Nat.add_mul, Nat.one_mul] at this
    omega
theorem Blob.oks {S : Spa} {n : Nat} {b : ByteArray} {ks : List Nat} (h : Blob S n b ks) (hr : 1 ≤ S.r0) : okS S n = (List.range ks.length).map fun t => part S.r0 b t := by
  unfold okS
  rw [h.parts hr, takeW_all (fun j q hq => by
    rw [List.getElem?_map] at hq
    cases hh : (List.range ks.length)[j]? with
    | none => rw [hh] at hq; cases hq
    | some t => rw [hh] at hq; injection hq with hq; rw [← hq])]
  rw [List.map_map]
  rfl
theorem Blob.plen {S : Spa} {n : Nat} {b : ByteArray} {ks : List Nat} (h : Blob S n b ks) (hd : SpDims S) : (partsS S n).length ≤ 100000 ∧ ∀ p ∈ partsS S n, p.1.size ≤ 5000 := by
  obtain ⟨q0, q1, q2, q3⟩ := r0_spec hd
  rw [h.parts (by omega)]
  have hn := nparts_le q1 h.most
  rw [← h.len] at hn
  refine ⟨by rw [List.length_map, List.length_range]; omega, fun p hp => ?_⟩
  obtain ⟨t, ht, rfl⟩ := List.mem_map.1 hp
  have hp := part_size (r := S.r0) (b := b) (i := t) (by omega) (by rw [← h.len]; exact List.mem_range.1 ht)
  show (part S.r0 b t).size ≤ 5000
  omega
/-! ### What is no blob -/
theorem bad_parts {S : Spa} {n : Nat} {e : Int} (h : (idxS S n).2.2 = e) (he : e ≠ 0) : partsS S n = [(ByteArray.empty, e)] ∧ bgetS S n = (ByteArray.empty, e) := by
  have e1 : partsS S n = [(ByteArray.empty, e)] := by unfold partsS; rw [h, if_pos he]
  refine ⟨e1, ?_⟩
  unfold bgetS
  rw [e1, List.find?_cons, decide_eq_true he]
end Go.Proofs.YtcjobbcijbkjkaaGreat.V

/- Spaces of one's own: contracts, short. -/
set_option linter.unusedVariables false
set_option linter.unusedSimpArgs false
namespace Go.Proofs.YtcjobbcijbkjkaaGreat.V
open Go Go.Proofs Go.RowKit Crc

/-- A space of one's own, made since w0. -/
def At (w0 w : World) (b db : Nat) (S : Spa) : Prop := ∃ F, SpAt w b db S F ∧ (∀ k, F k → w0.heap.size ≤ k) ∧ Ext w0 w
variable {w0 w w' : World} {b db : Nat} {S : Spa} {R : List Nat}
theorem At.x (h : At w0 w b db S) : Ext w0 w := by
  obtain ⟨F, _, _, hx⟩ := h
  exact hx
theorem At.ext (h : At w0 w b db S) (he : Ext w w') : At w0 w' b db S := by
  obtain ⟨F, h1, h2, hx⟩ := h
  exact ⟨F, h1.ext he, h2, hx.trans he⟩
theorem At.open_ (h : At w0 w b db S) : ∃ F Fd x hb hr nb nr m, SpM w b db S F Fd x hb hr nb nr m ∧ (∀ k, F k → w0.heap.size ≤ k) ∧ Ext w0 w := by
  obtain ⟨F, ⟨Fd, x, hb, hr, nb, nr, m, h⟩, h2, hx⟩ := h
  exact ⟨F, Fd, x, hb, hr, nb, nr, m, h, h2, hx⟩
theorem At.step {F : Nat → Prop} {S' : Spa} (h2 : ∀ k, F k → w0.heap.size ≤ k) (hx : Ext w0 w) (hst : StepS w b db F S' w') : At w0 w' b db S' := by
  obtain ⟨F', g1, g2, g3⟩ := hst
  refine ⟨F', g1, fun k hk => ?_, Only.ext hx g3 h2⟩
  rcases g2 k hk with e | e
  · exact h2 k e
  · exact Nat.le_trans hx.size e
theorem At.only {G : Nat → Prop} (h : At w0 w b db S) (hO : Only G w w') (hG : ∀ F : Nat → Prop, SpAt w b db S F → ∀ k, F k → ¬ G k) (hG0 : ∀ k, G k → w0.heap.size ≤ k) : At w0 w' b db S := by
  obtain ⟨F, h1, h2, hx⟩ := h
  exact ⟨F, h1.only hO (hG F h1), h2, Only.ext hx hO hG0⟩
theorem At.fit (h : At w0 w b db S) : ∀ n, S.now.getD n 0 < 65536 := by
  obtain ⟨F, Fd, x, hb, hr, nb, nr, m, h, _⟩ := h.open_
  exact fun n => (cnt_lt h n).1
theorem At.N (h : At w0 w b db S) : S.N ≤ 4096 ∧ S.now.length = S.N := by
  obtain ⟨F, Fd, x, hb, hr, nb, nr, m, h, _⟩ := h.open_
  exact ⟨h.dims.n.2, h.ok.now⟩
theorem at_free (h : At w0 w b db S) : Calls Tryz.prog 16 #[.pointer (some ⟨b, 0, none⟩)] w (Ret fun v w' => v = .int .i64 (S.freeN : Int) ∧ At w0 w' b db S ∧ Ext w w') := by
  obtain ⟨F, Fd, x, hb, hr, nb, nr, m, h', _⟩ := h.open_
  exact (freeN_calls h').mono (Ret.mono fun v w' ⟨h1, h2⟩ => ⟨h1, h.ext h2, h2⟩)
theorem at_count (h : At w0 w b db S) {n : Nat} (hn : n < 4294967296) : Calls Tryz.prog 28 #[.pointer (some ⟨b, 0, none⟩), .int .u32 (n : Int)] w (Ret fun v w' => v = .int .i64 ((S.now.getD n 0 : Nat) : Int) ∧ w' = w) := by
  obtain ⟨F, Fd, x, hb, hr, nb, nr, m, h', _⟩ := h.open_
  exact count_calls h' hn
theorem at_room (h : At w0 w b db S) {k : Int} (hk0 : -9223372036854775808 ≤ k) (hk : k < 9223372036854775808) : Calls Tryz.prog 18 #[.pointer (some ⟨b, 0, none⟩), .int .i64 k] w (Ret fun v w' => v = .int .i64 (S.room k) ∧ Ext w w') := by
  obtain ⟨F, Fd, x, hb, hr, nb, nr, m, h', _⟩ := h.open_
  exact roomC_calls h' hk0 hk
theorem at_most (h : At w0 w b db S) : Calls Tryz.prog 15 #[.pointer (some ⟨b, 0, none⟩)] w (Ret fun v w' => v = .int .i64 (mostB S.r0 : Int) ∧ Ext w w') := by
  obtain ⟨F, Fd, x, hb, hr, nb, nr, m, h', _⟩ := h.open_
  exact most_calls h'
theorem at_size (h : At w0 w b db S) {n : Nat} (hn : n < 4294967296) : Calls Tryz.prog 12 #[.pointer (some ⟨b, 0, none⟩), .int .u32 (n : Int)] w (Ret fun v w' => v = .tuple #[.int .i64 ((idxS S n).1 : Int), .int .i64 (idxS S n).2.2] ∧ Ext w w') := by
  obtain ⟨F, Fd, x, hb, hr, nb, nr, m, h', _⟩ := h.open_
  exact bsize_calls h' hn
theorem at_get (h : At w0 w b db S) {n : Nat} (hn : n < 4294967296) (hl : (partsS S n).length ≤ 100000 ∧ ∀ p ∈ partsS S n, p.1.size ≤ 5000) : Calls Tryz.prog 11 #[.pointer (some ⟨b, 0, none⟩), .int .u32 (n : Int)] w (Ret fun v w' => v = .tuple #[.string (bgetS S n).1, .int .i64 (bgetS S n).2] ∧ Ext w w') := by
  obtain ⟨F, Fd, x, hb, hr, nb, nr, m, h', _⟩ := h.open_
  exact bget_calls h' hn hl.1 hl.2
theorem at_audit0 (h : At w0 w b db S) (hg : Good S []) : Calls Tryz.prog 23 #[.pointer (some ⟨b, 0, none⟩), .slice none 0 0] w (Ret fun v w' => v = .int .i64 0 ∧ Ext w w') := by
  have hfit := h.fit
  obtain ⟨F, Fd, x, hb, hr, nb, nr, m, h', _⟩ := h.open_
  obtain ⟨d, ys, s', v1, v2, v3, v4⟩ := audit_good hg hfit
  refine (audit_calls h' (x0 := (none, 0, 0)) (Sli.nil w none) (by simp) (fun a ha => by cases ha) (fun p hp => (hg.well.pgs p hp).2.1) v2 v3 v1).mono (Ret.mono ?_)
  rintro v w' ⟨rfl, he⟩
  refine ⟨?_, he⟩
  rw [if_neg (by simp), if_pos v4]
theorem at_audit1 (h : At w0 w b db S) {n : Nat} (hg : Good S [n]) {r : Nat} (hb : Blk w r [.int .u32 (n : Int)] 30) : Calls Tryz.prog 23 #[.pointer (some ⟨b, 0, none⟩), .slice (some ⟨r, 0, none⟩) 1 1] w (Ret fun v w' => v = .int .i64 0 ∧ Ext w w') := by
  have hfit := h.fit
  obtain ⟨F, Fd, x, hb', hr, nb, nr, m, h', _⟩ := h.open_
  obtain ⟨d, ys, s', v1, v2, v3, v4⟩ := audit_good hg hfit
  have hs : Sli (numE .u32) w (some ⟨r, 0, none⟩) 1 [n] := Sli.of_blk hb rfl (by omega)
  have hnN := hg.well.lt (hg.well.root n (by simp))
  have hN := hg.dims.n
  refine (audit_calls h' (x0 := (some ⟨r, 0, none⟩, 1, 1)) hs (by simp; omega) (fun a ha => by injection ha with ha; rw [← ha]; exact hb.lt) (fun p hp => (hg.well.pgs p hp).2.1) v2 v3 v1).mono (Ret.mono ?_)
  rintro v w' ⟨rfl, he⟩
  refine ⟨?_, he⟩
  rw [if_neg (by simp), if_pos v4]
theorem at_drop (h : At w0 w b db S) {n : Nat} (hg : Good S (n :: R)) : Calls Tryz.prog 22 #[.pointer (some ⟨b, 0, none⟩), .int .u32 (n : Int)] w (Ret fun v w' => v = .int .i64 0 ∧ ∃ c', Drp S.asked S.page S.now [n] c' 0 ∧ Good { S with now := c' } R ∧ (∀ k, c'.getD k 0 ≤ S.now.getD k 0) ∧ At w0 w' b db { S with now := c' }) := by
  obtain ⟨F, Fd, x, hb, hr, nb, nr, m, h', h2, hx⟩ := h.open_
  obtain ⟨c', d1, d2, d3, d4⟩ := drop_good hg
  have hu := hg.well.root n (by simp)
  have hnN := hg.well.lt hu
  have hN := hg.dims.n
  refine (drop_calls h' (n := n) (by omega) (c' := c') (e := 0) (fun _ => d1) (fun e => by rw [(used_asked hg hu).1] at e; cases e)).mono (Ret.mono ?_)
  rintro v w' ⟨rfl, hS, hO⟩
  exact ⟨rfl, c', d1, d2, d4, At.step h2 hx ⟨F, hS.toAt, fun k hk => .inl hk, hO⟩⟩
theorem at_share (h : At w0 w b db S) {n : Nat} (hg : Good S R) (hu : usedC S.sup.pages S.now n = true) (h6 : S.now.getD n 0 < 65535) : Calls Tryz.prog 21 #[.pointer (some ⟨b, 0, none⟩), .int .u32 (n : Int)] w (Ret fun v w' => v = .int .i64 0 ∧ Good { S with now := S.now.set n (S.now.getD n 0 + 1) } (n :: R) ∧ At w0 w' b db { S with now := S.now.set n (S.now.getD n 0 + 1) }) := by
  obtain ⟨F, Fd, x, hb, hr, nb, nr, m, h', h2, hx⟩ := h.open_
  obtain ⟨s1, s2, s3⟩ := share_good hg hu h6
  have hnN := hg.well.lt hu
  have hN := hg.dims.n
  refine (share_calls h' (n := n) (by omega)).mono (Ret.mono ?_)
  rintro v w' ⟨rfl, hS, hO⟩
  rw [s1]
  rw [s3] at s2 hS
  exact ⟨rfl, s2, At.step h2 hx ⟨F, hS.toAt, fun k hk => .inl hk, hO⟩⟩
theorem at_bput (h : At w0 w b db S) (hg : Good S R) (hpen : S.dev.pen.length ≤ 900000) (bs : ByteArray) (hbs : bs.size ≤ 1000000000) :
    Calls Tryz.prog 10 #[.pointer (some ⟨b, 0, none⟩), .string bs] w (Ret fun v w' => (mostB S.r0 < bs.size ∧ v = .tuple #[.int .u32 0, .int .i64 3] ∧ At w0 w' b db S) ∨
      (bs.size ≤ mostB S.r0 ∧ S.sup.pages.length + nparts S.r0 bs.size + 1 ≤ S.freeN ∧ ∃ (S2 : Spa) (n : Nat) (ks : List Nat), PutB S S2 R bs n ks ∧ v = .tuple #[.int .u32 (n : Int), .int .i64 0] ∧ At w0 w' b db S2) ∨
      (bs.size ≤ mostB S.r0 ∧ S.freeN < S.sup.pages.length + nparts S.r0 bs.size + 1 ∧ ∃ S2 : Spa, Good S2 R ∧ S2.now = S.now ∧ S2.sup = S.sup ∧ S2.held = S.held ∧ S2.mark = S.mark ∧ S2.dev.pen.length ≤ S.dev.pen.length + S.freeN ∧ v = .tuple #[.int .u32 0, .int .i64 9] ∧ At w0 w' b db S2)) := by
  obtain ⟨F, Fd, x, hb, hr, nb, nr, m, h', h2, hx⟩ := h.open_
  refine (bput_calls h' hg hpen bs hbs).mono (Ret.mono ?_)
  rintro v w' (⟨q1, rfl, q2⟩ | ⟨q1, q2, S1, S2, ks, n, q3, q4, q5, rfl, q6⟩ | ⟨q1, q2, S1, ks, ps, q3, q4, rfl, q6⟩)
  · exact .inl ⟨q1, rfl, At.step h2 hx q2⟩
  · exact .inr (.inl ⟨q1, q2, S2, n, ks, putB_of hg q1 q3 q4 q5, rfl, At.step h2 hx q6⟩)
  · refine .inr (.inr ⟨q1, q2, { S1 with now := S.now }, q4, rfl, q3.sup, q3.held, q3.mark, ?_, rfl, At.step h2 hx q6⟩)
    show S1.dev.pen.length ≤ _
    rw [q3.pen]
    unfold Spa.freeN
    rw [q3.free, List.length_append]
    omega
theorem at_put (h : At w0 w b db S) {p : Page} {A : Option Addr} {n c : Nat} (hg : Good S (p.2.1 ++ R)) (hpen : S.dev.pen.length ≤ 900000) (hs : Sli (numE .u32) w A n p.2.1) (hA : ∀ F : Nat → Prop, SpAt w b db S F → ∀ a, A = some a → ¬ F a.block) (ht : 3 ≤ p.1.toNat) (hk : (p.2.1.length : Int) ≤ S.room 0 / 4) (hd : (p.2.2.size : Int) ≤ S.room p.2.1.length) (hfree : S.sup.pages.length < S.freeN) :
    Calls Tryz.prog 13 #[.pointer (some ⟨b, 0, none⟩), .agg (pgV p (A, n, c)).toArray] w (Ret fun v w' => ∃ (S' : Spa) (k : Nat), v = .tuple #[.int .u32 (k : Int), .int .i64 0] ∧ PutOk S S' p k ∧ Good S' (k :: R) ∧ At w0 w' b db S') := by
  have hAt := h
  obtain ⟨F, Fd, x, hb, hr, nb, nr, m, h', h2, hx⟩ := h.open_
  obtain ⟨s1, s2, s3⟩ := put_good hg ht hk hd hfree
  have hdim := h'.dims
  have hrk : (p.2.2.size : Int) ≤ 4096 := by
    have := hdim.size; have := hdim.room
    unfold Spa.room at hd
    split at hd <;> omega
  refine (putS_calls h' hg.h01 (by have := hg.gen; omega) (by omega) p hs (fun k hk => by
    have := hg.well.lt (hg.well.root k (List.mem_append_left _ hk))
    have := hg.dims.n
    omega) (hA F h'.toAt) (by omega)).mono (Ret.mono ?_)
  rintro v w' ⟨rfl, hst⟩
  rw [s1]
  exact ⟨_, _, rfl, s2, s3, At.step h2 hx hst⟩
/-- A space on a new device. -/
theorem devG0 {size blocks : Int} (h : geoOK size blocks = true) : DevG (dev0 size blocks) := ⟨dev0_ok h, rfl⟩
theorem at_format {w1 : World} {d : Dev} {db : Nat} (h : DevNew w0 d db w1) (hd : DevG d) (hpen : d.pen.length ≤ 800000) :
    Calls Tryz.prog 30 #[.pointer (some ⟨db, 0, none⟩)] w1 (Ret fun v w' => ((formatD d).2 ≠ 0 ∧ v = .tuple #[.pointer none, .int .i64 (formatD d).2] ∧ Ext w0 w') ∨ ((formatD d).2 = 0 ∧ ∃ b, v = .tuple #[.pointer (some ⟨b, 0, none⟩), .int .i64 0] ∧ At w0 w' b db (formatS d))) := by
  obtain ⟨F, h1, h2, hx⟩ := h
  refine (format_calls h1 hpen).mono (Ret.mono ?_)
  rintro v w' (⟨q1, rfl, F', q2, q3, q4⟩ | ⟨q1, b, F', rfl, q2, q3, q4, q5⟩)
  · exact .inl ⟨q1, rfl, Only.ext hx q4 h2⟩
  · refine .inr ⟨q1, b, rfl, F', q2, fun k hk => ?_, Only.ext hx q5 h2⟩
    rcases q4 k hk with e | e
    · exact h2 k e
    · exact Nat.le_trans hx.size e
end Go.Proofs.YtcjobbcijbkjkaaGreat.V

/- Law 15: the space that all begin with; the chapter's example. -/
set_option linter.unusedVariables false
set_option linter.unusedSimpArgs false
namespace Go.Proofs.YtcjobbcijbkjkaaGreat.V
open Go Go.Proofs Go.RowKit Crc

def S0 : Spa := formatS (dev0 128 40)
theorem geo0 : geoOK 128 40 = true := by decide
theorem fmtN0 : fmtN 128 40 = 1 := by decide
theorem chk0 : chk (fmtS 128 40) = 0 := by
  have h := chk_fmt (size := 128) (N := 40) geo0
  rw [h, fmtN0]
  decide
theorem s0_good : (formatD (dev0 128 40)).2 = 0 ∧ Good S0 [] ∧ S0.dev.pen = [] := format_good (devG0 geo0) chk0
theorem s0_sup : S0.sup = fmtS 128 40 := rfl
theorem s0_pages : S0.sup.pages.length = 1 := by rw [s0_sup]; show (fmtP (fmtN 128 40)).length = 1; rw [fmtP_length, fmtN0]
theorem s0_r0 : S0.r0 = 110 := by unfold Spa.r0 Spa.room; rw [s0_sup]; decide
theorem most0 : mostB 110 = 2860 := by decide
theorem s0_free : S0.freeN = 37 := by
  unfold Spa.freeN Spa.freeL Spa.isFree Spa.N
  show ((List.range (Int.toNat 40)).filter fun n => decide (2 ≤ n) && ((fmtC 40 (fmtN 128 40)).getD n 0 == 0 && (fmtC 40 (fmtN 128 40)).getD n 0 == 0 && cnt none n == 0)).length = 37
  rw [fmtN0]
  decide
theorem roomy_calls (w : World) : Calls Tryz.prog 9 #[] w (Ret fun v w' => v = .agg #[.int .i64 128, .int .i64 40] ∧ Ext w w') := by
  apply calls9
  unfold S9
  refine new_i fun r1 w1 hb1 he1 hr1 _ => ?_
  refine refill (vs := [.int .i64 128, .int .i64 40]) hb1 (by rfl) (fun v hv => by
    simp only [List.mem_cons, List.not_mem_nil, or_false] at hv
    rcases hv with rfl | rfl <;> rfl) (by rfl) (fun w' hb' hx hs hz => ?_)
  refine boxA (ls := [.int .i64, .int .i64]) (128, 40, ()) hb' rfl ⟨rfl, hx w he1 (by omega)⟩
theorem made0_calls (w : World) : Calls Tryz.prog 8 #[.agg #[.int .i64 128, .int .i64 40]] w (Ret fun v w' => ∃ db b, v = .tuple #[.pointer (some ⟨db, 0, none⟩), .pointer (some ⟨b, 0, none⟩)] ∧ At w w' b db S0) := by
  apply calls8
  unfold S8
  refine new_i fun r1 w1 hb1 he1 hr1 _ => ?_
  refine boxA (ls := [.int .i64, .int .i64]) (128, 40, ()) hb1 rfl ?_
  refine callW_of (dnew_calls w1 128 40) ?_
  rintro _ w2 (⟨_, db, rfl, hd⟩ | ⟨hg, _⟩)
  · refine ⟨(some ⟨db, 0, none⟩, 0, ()), rfl, ?_⟩
    refine callW_of (at_format (hd.pre he1) (devG0 geo0) (by show ([] : List (Int × ByteArray)).length ≤ _; simp)) ?_
    rintro _ w3 (⟨hne, _⟩ | ⟨_, b, rfl, hat⟩)
    · exact absurd s0_good.1 hne
    · refine ⟨(some ⟨b, 0, none⟩, 0, ()), rfl, splitW_f (by rfl) ?_⟩
      exact ⟨db, b, rfl, hat⟩
  · rw [geo0] at hg; cases hg
theorem na (n : Nat) : (mkB (timesL [97] n)).size = n := by rw [mkB_size, timesL_length]; simp
theorem B97 : B (ByteArray.mk #[97]) = [97] := rfl
theorem times97 (w : World) (n : Nat) (hn : n ≤ 1000000) : Calls Tryz.prog 14 #[.string (ByteArray.mk #[97]), .int .i64 (n : Int)] w (Ret fun v w' => v = .string (mkB (timesL [97] n)) ∧ w' = w) := by
  refine (times_calls w (ByteArray.mk #[97]) (n := (n : Int)) (by omega) ?_ ?_).mono (Ret.mono ?_)
  · rw [B97, Int.toNat_natCast]; show 1 * n ≤ _; omega
  · rw [B97]; decide
  · rintro v w' ⟨rfl, rfl⟩
    rw [B97, Int.toNat_natCast]
    exact ⟨rfl, rfl⟩
theorem PutB.bloba {S S2 : Spa} {R ks : List Nat} {bs : ByteArray} {n : Nat} (h : PutB S S2 R bs n ks) : Blob S2 n bs ks := h.blob.blob h.good (h.good.well.root n List.mem_cons_self)
theorem PutB.lt32 {S S2 : Spa} {R ks : List Nat} {bs : ByteArray} {n : Nat} (h : PutB S S2 R bs n ks) : n < 4294967296 := by
  have := h.good.dims.n
  have := h.good.well.lt (h.good.well.root n List.mem_cons_self)
  omega
theorem PutB.r0 {S S2 : Spa} {R ks : List Nat} {bs : ByteArray} {n : Nat} (h : PutB S S2 R bs n ks) : S2.r0 = S.r0 := by unfold Spa.r0 Spa.room; rw [h.sup]
theorem lives_calls (w : World) : Calls Tryz.prog 7 #[] w (Ret fun v w' => v = .bool true ∧ Ext w w') := by
  apply calls7
  unfold S7
  refine callW_of (roomy_calls w) ?_
  rintro _ w1 ⟨rfl, he1⟩
  refine ⟨(128, 40, ()), rfl, ?_⟩
  refine callW_of (made0_calls w1) ?_
  rintro _ w2 ⟨db, b, rfl, h2⟩
  refine ⟨(some ⟨db, 0, none⟩, some ⟨b, 0, none⟩, ()), rfl, splitW_f (by rfl) ?_⟩
  dsimp only
  refine callW_of (at_free h2) ?_
  rintro _ w3 ⟨rfl, h3, _⟩
  refine ⟨_, rfl, ?_⟩
  refine callW_of (times97 w3 300 (by omega)) ?_
  rintro _ w4 ⟨rfl, hw4⟩
  refine ⟨_, rfl, ?_⟩
  rw [hw4]
  have hn3 : nparts 110 300 = 3 := by decide
  refine callW_of (at_bput h3 s0_good.2.1 (by rw [s0_good.2.2]; simp) (mkB (timesL [97] 300)) (by rw [na]; omega)) ?_
  rintro _ w5 (⟨q1, _⟩ | ⟨q1, q2, S2, n, ks, hP, rfl, h5⟩ | ⟨_, q2, _⟩)
  · rw [na, s0_r0, most0] at q1; omega
  · refine ⟨((n : Int), 0, ()), rfl, ?_⟩
    dsimp only
    have hn32 := hP.lt32
    have hbl := hP.bloba
    have hr2 : S2.r0 = 110 := by rw [hP.r0, s0_r0]
    refine callW_of (at_get h5 hn32 (hbl.plen hP.good.dims)) ?_
    rintro _ w6 ⟨rfl, he6⟩
    refine ⟨((bgetS S2 n).1, (bgetS S2 n).2, ()), rfl, ?_⟩
    rw [hbl.get (by rw [hr2]; omega)]
    have h6 := h5.ext he6
    refine splitW_t (by rfl) ?_
    refine callW_of (at_free h6) ?_
    rintro _ w7 ⟨rfl, h7, _⟩
    refine ⟨_, rfl, ?_⟩
    have hfree := hP.free
    rw [na, s0_r0, hn3, s0_free] at hfree
    refine splitW_t (by rw [s0_free, wrap_i64 (by omega) (by omega), show ((37 : Nat) : Int) - (S2.freeN : Int) = 4 by omega]; rfl) ?_
    refine callW_of (at_count h7 hn32) ?_
    rintro _ w8 ⟨rfl, hw8⟩
    refine ⟨_, rfl, ?_⟩
    rw [hw8, hP.one]
    refine splitW_t (by rfl) (splitW_t (by rfl) ?_)
    refine callW_of (times97 w7 300 (by omega)) ?_
    rintro _ w9 ⟨rfl, hw9⟩
    refine ⟨_, rfl, ?_⟩
    rw [hw9]
    dsimp only
    rw [str_beq]
    refine splitW_t (by rw [decide_eq_true rfl]) ?_
    refine new_i fun r10 w10 hb10 he10 hr10 _ => ?_
    refine callW_of (at_audit1 (h7.ext he10) hP.good (by exact hb10)) ?_
    rintro _ w11 ⟨rfl, he11⟩
    refine ⟨_, rfl, rfl, ?_⟩
    exact he1.trans ((h7.ext he10).ext he11).x
  · rw [na, s0_r0, s0_pages, s0_free, hn3] at q2; omega
end Go.Proofs.YtcjobbcijbkjkaaGreat.V

/- Law 15: parts, BlobParts. -/
set_option linter.unusedVariables false
set_option linter.unusedSimpArgs false
namespace Go.Proofs.YtcjobbcijbkjkaaGreat.V
open Go Go.Proofs Go.RowKit Crc

theorem eqIn_func {P : Program} {t : TypeId} {u : TypeDesc} {f : Fn} {cap : Array Value} (ht : P.underlying t = some u) (hu : ∃ a r v, u = .func a r v) (d : Nat) (w : World) : (Op.equalIn (d + 1) t (.func f #[] cap) .nilFunc).run P w = .ok false w := by
  obtain ⟨a, r, v, rfl⟩ := hu
  unfold Op.equalIn
  rw [Sem.run_bind, run_underlying' ht, Result.andThen_ok]
  rfl
theorem eq_func (t : Operand) (f : Fn) (cap : Array Value) (w : World) : (eqS .eql 51 t (.const .nilFunc) (.func f #[] cap) .nilFunc).run Tryz.prog w = .ok (.bool false) w := by
  have h0 : ((Tryz.prog.underlying 51).any fun u => match u with | .func _ _ _ => true | _ => false) = true := by kernel_rfl
  have ht : ∃ u, Tryz.prog.underlying 51 = some u ∧ ∃ a r v, u = .func a r v := by
    revert h0
    cases Tryz.prog.underlying 51 with
    | none => intro h; cases h
    | some u => cases u <;> intro h <;> first | exact ⟨_, rfl, _, _, _, rfl⟩ | cases h
  obtain ⟨u, ht, hu⟩ := ht
  have hg : (eqGuard .eql 51 t (.const .nilFunc) (.func f #[] cap) .nilFunc).run Tryz.prog w = .ok () w := rfl
  have hb : binOp .eql 51 (.func f #[] cap) .nilFunc = (do pure (.bool (← Op.equalIn (9999 + 1) 51 (.func f #[] cap) .nilFunc))) := rfl
  unfold eqS
  rw [Sem.run_bind, hg, Result.andThen_ok, hb, Sem.run_bind, eqIn_func ht hu]
  rfl
variable {w w' : World} {b db : Nat} {S : Spa} {F Fd : Nat → Prop} {x : SLC} {hb hr nb nr : Nat} {m : MkL}
theorem lparts_calls (h : SpM w b db S F Fd x hb hr nb nr m) {n : Nat} (hn : n < 4294967296) (hlen : (okS S n).length ≤ 4000) :
    Calls Tryz.prog 17 #[.pointer (some ⟨b, 0, none⟩), .int .u32 (n : Int)] w (Ret fun v w' => ∃ y : SLC, v = .tuple #[.slice y.1 y.2.1 y.2.2, .bool true] ∧ Owni strE 9 w' w.heap.size y.1 y.2.1 y.2.2 (okS S n) ∧ Ext w w') := by
  have hFlt := h.lt
  apply calls17
  unfold S17
  refine new_i fun r1 w1 hb1 he1 hr1 hz1 => ?_
  refine new_i fun r2 w2 hb2 he2 hr2 hz2 => ?_
  have hb1 := hb1.ext he2
  have he := he1.trans he2
  refine callW_of (Parts_calls (h.ext he) hn) ?_
  rintro v w3 ⟨Q, R0, ⟨f, cap, rfl⟩, hit, hR0, hRx, hQl, hQ, he3⟩
  refine ⟨_, rfl, false, fun w' => eq_func _ f cap w', splitW_f (by rfl) ?_⟩
  have hb1 := hb1.ext he3
  have hb2 := hb2.ext he3
  have he03 := he.trans he3
  refine new_i fun r7 w4 hb7 he4 hr7 hz7 => ?_
  have hb1 := hb1.ext he4
  have hb2 := hb2.ext he4
  have he04 := he03.trans he4
  have hs1 := he1.size
  have hs3 := he3.size
  have h04 := he04.size
  have hr2w : r2 < w2.heap.size := by omega
  have hsame : ∀ {w' w'' : World}, SameBut w4.heap.size (w4.heap.size + 1) w' w'' → RSp b db S F Fd x hb hr nb nr m w' → RSp b db S F Fd x hb hr nb nr m w'' := fun hs hS =>
    SpM.sameBut hS hs (fun hf => by have := hFlt _ hf; omega) (fun hf => by have := hFlt _ hf; omega)
  have hol : (strsV (okS S n)).length = (okS S n).length := by simp [strsV]
  have hel : ∀ i, i < (okS S n).length → (okS S n)[i]? = some ((okS S n).getD i ByteArray.empty) := fun i hi => by rw [List.getD_eq_getElem?_getD, List.getElem?_eq_getElem hi]; rfl
  have hQ3 : ∀ k, Q k → k < w3.heap.size := hQl
  refine rangeV_i (fun i => ((okS S n).getD i ByteArray.empty, ())) ?_
    (fun V i w' => RSp b db S F Fd x hb hr nb nr m w' ∧ Blk w' r1 [.slice none 0 0] 45 ∧ Blk w' r2 [.bool false] 4 ∧ (∃ A c, Blk w' r7 [.slice A i c] 45 ∧ Owni strE 9 w' w4.heap.size A i c ((okS S n).take i) ∧ (∀ j, orow A = some j → ¬ V j ∧ j ≠ w4.heap.size ∧ j ≠ w4.heap.size + 1)) ∧ Ext w w' ∧ (∀ k, V k → w2.heap.size ≤ k ∧ k ≠ r7) ∧ w4.heap.size ≤ w'.heap.size)
    (fun _ _ _ => False)
    hit (fun k hk => by have := hQl k hk; have := he4.size; omega) (fun w' w'' hs hS => hsame hs hS) (fun _ _ _ _ => trivial) ?_ ?_ ?_ ?_ ?_ ?_ ?_ ?_
  · intro i hi
    have hi' : i < (okS S n).length := by rw [hol] at hi; exact hi
    simp [strsV, hi']
  · intro V i w' hI
    exact hI.1
  · rintro V V' i w' w'' ⟨g1, g2, g3, ⟨A, c, g4, g5, g6⟩, g7, g8, g9⟩ hO hV hR
    have hno : ∀ k, k < w4.heap.size → (k < w2.heap.size ∨ k = r7) → ¬ (V k ∨ k = w4.heap.size ∨ k = w4.heap.size + 1) := fun k hk hk2 hh => by
      rcases hh with hh | hh | hh
      · have := g8 k hh; omega
      · omega
      · omega
    refine ⟨hR, g2.only hO (hno r1 (by omega) (.inl (by omega))), g3.only hO (hno r2 (by omega) (.inl hr2w)), ⟨A, c, g4.only hO (hno r7 (by omega) (.inr rfl)), g5.only hO (fun j hj hh => ?_), fun j hj => ⟨fun hv => ?_, (g6 j hj).2⟩⟩, Only.ext g7 hO (fun j hj => ?_), fun k hk => ?_, ?_⟩
    · rcases hh with hh | hh | hh
      · exact (g6 j hj).1 hh
      · exact (g6 j hj).2.1 hh
      · exact (g6 j hj).2.2 hh
    · rcases hV j hv with e | e
      · exact (g6 j hj).1 e
      · have := g5.row_lt j hj; omega
    · rcases hj with hj | rfl | rfl
      · have := (g8 j hj).1; have := he.size; omega
      · omega
      · omega
    · rcases hV k hk with e | e
      · exact g8 k e
      · omega
    · have := hO.2.2.2.1; omega
  · intro V V' c w' w'' hD
    exact hD.elim
  · intro o
    have hx : Ext w4 ((w4.alloc (.deferred (some []))).alloc o) := ((Ext.refl w4).alloc _).alloc _
    exact ⟨(h.ext he04).ext hx, hb1.ext hx, hb2.ext hx, ⟨none, 0, hb7.ext hx, Owni.nil _ _ _, fun j hj => by cases hj⟩, he04.trans hx, fun k hk => by have := hQ k hk; have := hQ3 k hk; omega, hx.size⟩
  · intro o
    exact hRx _ _ hR0 ((he4.trans (((Ext.refl w4).alloc _).alloc _)))
  · rintro V i hi w' G N jump hI hsz hV hVb hG
    have hi' : i < (okS S n).length := by rw [hol] at hi; exact hi
    have ei := hel i hi'
    generalize (okS S n).getD i ByteArray.empty = p at *
    refine hG _ w' hI (Nat.le_refl _) (fun _ _ => rfl) ?_
    rintro w5 ⟨g1, g2, g3, ⟨A, c, g4, g5, g6⟩, g7, g8, g9⟩ hs2 hk2 hNC hN' hJ'
    refine ldW_blk (l := .slc) (x := (A, i, c)) g4 (by rfl) ?_
    dsimp only
    refine splitW_f (decide_eq_false (by omega)) ?_
    refine ldW_blk (l := .slc) (x := (A, i, c)) g4 (by rfl) ?_
    dsimp only
    have hle := g5.le
    refine append_newi (E := strE) (ys := [p]) (by rfl) rfl elem_strK' g5 (by omega) (by omega) (by omega) ?_
    intro A' c' w6 ho6 hg6
    have hx6 : ∀ j, orow A = some j → w4.heap.size ≤ j := fun j hj => g5.row j hj
    have oc : Only (fun j => orow A = some j) w5 w6 := Only.of_grown hg6.grown (fun j hj => .inl hj)
    have k2 := g2.only oc (fun e => by have := hx6 _ e; omega)
    have k3 := g3.only oc (fun e => by have := hx6 _ e; omega)
    have k4 := g4.only oc (fun e => by have := hx6 _ e; omega)
    have hS6 : RSp b db S F Fd x hb hr nb nr m w6 := SpM.only g1 oc (fun j hj e => by have := hx6 j e; have := hFlt j hj; omega)
    refine stW_blk k4 (by show 0 < 1; omega) ?_
    have hg7 := set_grown w6 r7 0 (.slice A' (i + 1) c')
    have oc2 : Only (fun j => j = r7) w6 (w6.setCell ⟨r7, 0, none⟩ (.slice A' (i + 1) c')) := Only.of_grown hg7 (fun j hj => .inl (by injection hj with hj; exact hj.symm))
    have hS7 : RSp b db S F Fd x hb hr nb nr m (w6.setCell ⟨r7, 0, none⟩ (.slice A' (i + 1) c')) := SpM.only hS6 oc2 (fun j hj e => by have := hFlt j hj; have : j = r7 := e; omega)
    have et : (okS S n).take (i + 1) = (okS S n).take i ++ [p] := by rw [List.take_add_one, ei]; rfl
    have hz7' := hg7.size
    have hz6 := hg6.grown.size
    dsimp only
    refine hN' _ hS7 ⟨hS7, k2.only oc2 (by show ¬ r1 = r7; omega), k3.only oc2 (by show ¬ r2 = r7; omega), ⟨A', c', k4.set 0 _, ?_, fun j hj => ?_⟩, Only.ext (Only.ext g7 oc (fun j hj => by have := hx6 j hj; omega)) oc2 (fun j hj => by have : j = r7 := hj; omega), g8, by omega⟩ (by omega) (fun k hk => ?_)
    · rw [et]
      exact ho6.only oc2 (fun j hj e => by have := ho6.row j hj; have : j = r7 := e; omega)
    · rcases hg6.next j hj with e | e
      · exact g6 j e
      · exact ⟨fun hv => by have := (hV j hv).1; omega, by omega, by omega⟩
    · have hk' : k < w5.heap.size ∧ k ≠ r7 ∧ orow A ≠ some k := by
        rcases hk with rfl | rfl | hk
        · exact ⟨by omega, by omega, fun e => (g6 _ e).2.1 rfl⟩
        · exact ⟨by omega, by omega, fun e => (g6 _ e).2.2 rfl⟩
        · exact ⟨by have := (hV k hk).1; omega, (g8 k hk).2, fun e => (g6 _ e).1 hk⟩
      rw [oc2.2.2.2.2 k (by omega) hk'.2.1]
      exact oc.2.2.2.2 k hk'.1 hk'.2.2
  · rintro V w' ⟨g1, g2, g3, ⟨A, c, g4, g5, g6⟩, g7, g8, g9⟩ _ hsz hdf
    rw [jumpK]
    rw [hol] at g4 g5
    rw [List.take_of_length_le (Nat.le_refl _)] at g5
    refine ldW_blk (l := .slc) (x := (A, (okS S n).length, c)) g4 (by rfl) ?_
    dsimp only
    refine stW_blk g2 (by show 0 < 1; omega) ?_
    have a1 := g2.set 0 (.slice A (okS S n).length c)
    have a2 := g3.other (p := ⟨r1, 0, none⟩) (by show r1 ≠ r2; omega) (.slice A (okS S n).length c)
    refine stW_blk a2 (by show 0 < 1; omega) ?_
    have b1 := a1.other (p := ⟨r2, 0, none⟩) (by show r2 ≠ r1; omega) (.bool true)
    have b2 := a2.set 0 (.bool true)
    have hx6 : ∀ j, orow A = some j → w4.heap.size ≤ j := fun j hj => g5.row j hj
    have hxx := (g7.set (p := ⟨r1, 0, none⟩) (by show w.heap.size ≤ r1; omega) (.slice A (okS S n).length c)).set (p := ⟨r2, 0, none⟩) (by show w.heap.size ≤ r2; omega) (.bool true)
    have o5 : Only (fun k => k = r1 ∨ k = r2) w' ((w'.setCell ⟨r1, 0, none⟩ (.slice A (okS S n).length c)).setCell ⟨r2, 0, none⟩ (.bool true)) := ⟨rfl, rfl, rfl, by simp, fun k _ hk => by
      rw [Below.heap_setCell _ _ _ _ (fun e => hk (.inr e)), Below.heap_setCell _ _ _ _ (fun e => hk (.inl e))]⟩
    have g5' := g5.only o5 (fun j hj e => by have := hx6 j hj; have e : j = r1 ∨ j = r2 := e; omega)
    generalize hw5 : (w'.setCell ⟨r1, 0, none⟩ (.slice A (okS S n).length c)).setCell ⟨r2, 0, none⟩ (.bool true) = w5 at *
    refine leave_i ?_ ?_
    · rw [o5.2.2.2.2 _ (by omega) (fun e => by have e : w4.heap.size = r1 ∨ w4.heap.size = r2 := e; omega)]
      exact hdf
    have hsb := sameBut_setO (a := w4.heap.size) (b := w4.heap.size + 1) (w := w5) (o := .deferred none) (.inl rfl)
    have oS : Only (fun k => k = w4.heap.size) w5 (setO w5 w4.heap.size (.deferred none)) := Only.setO rfl
    refine ldW_blk (l := .slc) (x := (A, (okS S n).length, c)) (hsb.blk b1 (by omega)) (by rfl) (ldW_blk (x := true) (hsb.blk b2 (by omega)) (by rfl) ?_)
    refine ⟨(A, (okS S n).length, c), rfl, ?_, hsb.ext hxx (by omega)⟩
    exact (g5'.only oS (fun j hj e => (g6 j hj).2.1 e)).lower h04
  · intro V c w' hD
    exact hD.elim
theorem idx_strH {w : World} {A : Option Addr} {n : Nat} {xs : List ByteArray} {i : Int} {K : Addr → ByteArray → WP} (h : Sli strE w A n xs) (h0 : 0 ≤ i) (h1 : i < (n : Int))
    (hK : ∀ p, (∀ w', Ext w w' → w'.cell? (p.add (Int.toNat i * 1)) = some (.string (xs.getD i.toNat ByteArray.empty))) → K p (xs.getD i.toNat ByteArray.empty) w) :
    (guardW (0 ≤ i ∧ i < ((n : Nat) : Int)) <| ptrW A fun p => ldW .str (p.add (Int.toNat i * 1)) (K p)) w := by
  have hl := h.len
  have e : xs[i.toNat]? = some (xs.getD i.toNat ByteArray.empty) := by rw [List.getD_eq_getElem?_getD, List.getElem?_eq_getElem (by omega)]; rfl
  obtain ⟨a, rfl, hs, hc⟩ := h.at_ e
  have hcell : w.cell? (a.add (Int.toNat i * 1)) = some (.string (xs.getD i.toNat ByteArray.empty)) := by
    have := hc.1
    rw [add_zero] at this
    exact this
  exact ⟨⟨h0, h1⟩, a, rfl, _, hcell, hK a (fun w' hx => hx.cell hcell)⟩
theorem bparts_calls (w : World) (bs : ByteArray) (early : Int) (he0 : -9223372036854775808 ≤ early) (he1 : early < 9223372036854775808) :
    Calls Tryz.prog 4 #[.string bs, .int .i64 early] w (Ret fun v w' => v = .bool true ∧ Ext w w') := by
  apply calls4
  unfold S4
  refine new_i fun r1 w1 hb1 hx1 hr1 hz1 => ?_
  refine new_i fun r2 w2 hb2 hx2 hr2 hz2 => ?_
  have hb1 := hb1.ext hx2
  refine callW_of (lives_calls w2) ?_
  rintro _ w3 ⟨rfl, hx3⟩
  refine ⟨_, rfl, splitW_f (by rfl) ?_⟩
  refine callW_of (roomy_calls w3) ?_
  rintro _ w4 ⟨rfl, hx4⟩
  refine ⟨(128, 40, ()), rfl, ?_⟩
  refine callW_of (made0_calls w4) ?_
  rintro _ w5 ⟨db, b, rfl, h5⟩
  refine ⟨(some ⟨db, 0, none⟩, some ⟨b, 0, none⟩, ()), rfl, ?_⟩
  dsimp only
  have hx02 := hx1.trans hx2
  have hx24 := hx3.trans hx4
  have hx04 := hx02.trans hx24
  have hx05 := hx04.trans h5.x
  have hx25 := hx24.trans h5.x
  have hs1 := hx1.size
  have hs24 := hx24.size
  refine splitW_i (fun hq => ?_) (fun hq => ?_)
  · have b2 := hb2.ext hx25
    refine stW_blk b2 (by show 0 < 1; omega) ?_
    refine ldW_blk (x := true) (b2.set 0 (.bool true)) (by rfl) ⟨rfl, hx05.set (p := ⟨r2, 0, none⟩) (by show w.heap.size ≤ r2; omega) _⟩
  have hsz : bs.size ≤ 2800 := by have := of_decide_eq_false hq; omega
  refine splitW_f (by rfl) ?_
  have hnp : nparts 110 bs.size ≤ 26 := by unfold nparts; omega
  refine callW_of (at_bput h5 s0_good.2.1 (by rw [s0_good.2.2]; simp) bs (by omega)) ?_
  rintro _ w6 (⟨q1, _⟩ | ⟨_, _, S2, n, ks, hP, rfl, h6⟩ | ⟨_, q2, _⟩)
  · rw [s0_r0, most0] at q1; omega
  rotate_left
  · rw [s0_r0, s0_pages, s0_free] at q2; omega
  refine ⟨((n : Int), 0, ()), rfl, ?_⟩
  dsimp only
  have hn32 := hP.lt32
  have hr2 : S2.r0 = 110 := by rw [hP.r0, s0_r0]
  have hbl := hP.bloba
  have hoks := hbl.oks (by rw [hr2]; omega)
  have hkl : ks.length = nparts 110 bs.size := by rw [hbl.len, hr2]
  have hol : (okS S2 n).length = nparts 110 bs.size := by rw [hoks, List.length_map, List.length_range, hkl]
  have hget : ∀ i, i < nparts 110 bs.size → (okS S2 n).getD i ByteArray.empty = part 110 bs i := fun i hi => by
    rw [hoks, List.getD_eq_getElem?_getD, List.getElem?_map, List.getElem?_range (by omega), hr2]
    rfl
  obtain ⟨F, Fd, x, hb, hr, nb, nr, m, hS6, hFw, hx46⟩ := h6.open_
  have hx06 := hx04.trans hx46
  have hx26 := hx24.trans hx46
  refine callW_of (lparts_calls hS6 hn32 (by omega)) ?_
  rintro _ w7 ⟨y, rfl, hoy, hx7⟩
  refine ⟨(y, true, ()), rfl, ?_⟩
  dsimp only
  have hyn := hoy.len
  have hx07 := hx06.trans hx7
  have hx27 := hx26.trans hx7
  refine new_i fun r11 w8 hb11 hx8 hr11 hz8 => ?_
  refine stW_blk hb11 (by show 0 < 1; omega) ?_
  have hb11' : Blk (w8.setCell ⟨r11, 0, none⟩ (.slice y.1 y.2.1 y.2.2)) r11 [.slice y.1 y.2.1 y.2.2] _ := hb11.set 0 (.slice y.1 y.2.1 y.2.2)
  have hx9 : Ext w7 (w8.setCell ⟨r11, 0, none⟩ (.slice y.1 y.2.1 y.2.2)) := hx8.set (by show w7.heap.size ≤ r11; omega) _
  have hz9 : (w8.setCell ⟨r11, 0, none⟩ (.slice y.1 y.2.1 y.2.2)).heap.size = r11 + 1 := by simp [hz8]
  generalize w8.setCell ⟨r11, 0, none⟩ (.slice y.1 y.2.1 y.2.2) = w9 at *
  refine splitW_f (by rfl) (splitW_f (by rfl) ?_)
  have hS9 := (hS6.ext hx7).ext hx9
  have hsl9 := hoy.sl.ext hx9
  have hx09 := hx07.trans hx9
  have hx29 := hx27.trans hx9
  have hb19 := (hb1.ext hx29)
  have hb29 := (hb2.ext hx29)
  have rm0 : S2.room 0 = 110 := by
    have : S2.r0 = 110 := hr2
    have h2 := (r0_spec hP.good.dims).1
    rw [this] at h2
    exact h2
  refine loopW_i (fun y' w' => ∃ i : Nat, i ≤ y.2.1 ∧ y' = ((i : Int), ()) ∧ Ext w9 w') (fun y' => (y.2.1 - y'.1).toNat) ⟨0, by omega, rfl, Ext.refl w9⟩ ?_
  rintro _ w10 ⟨i, hi, rfl, hx10⟩
  dsimp only
  refine ldW_blk (l := .slc) (x := y) (hb11'.ext hx10) (by rfl) ?_
  have hw1 : i < y.2.1 → IntKind.wrap .i64 ((i : Int) + 1) = ((i + 1 : Nat) : Int) := fun h => by rw [wrap_i64 (by omega) (by omega)]; rfl
  by_cases hlt : i < y.2.1
  · refine splitW_t (decide_eq_true (by omega)) ?_
    have hps := part_size (r := 110) (b := bs) (i := i) (by omega) (by omega)
    have hgi := hget i (by omega)
    refine draw_i fun w11 hx11 _ _ => ?_
    have hx11' := hx10.trans hx11
    have hb11b := hb11'.ext hx11'
    refine ldW_blk (l := .slc) (x := y) hb11b (by rfl) ?_
    refine idx_str (hsl9.ext hx11') (by omega) (by omega) ?_
    rw [Int.toNat_natCast, hgi]
    refine splitW_f (decide_eq_false (by omega)) ?_
    refine ldW_blk (l := .slc) (x := y) hb11b (by rfl) ?_
    rw [← Int.toNat_natCast i]
    refine idx_strH (i := (i : Int)) (hsl9.ext hx11') (by omega) (by omega) (fun p hpc => ?_)
    rw [Int.toNat_natCast] at hpc ⊢
    refine callW_of (roomC_calls (hS9.ext hx11') (k := 0) (by omega) (by omega)) ?_
    rintro _ w12 ⟨rfl, hx12⟩
    refine ⟨_, rfl, ?_⟩
    have hx12' := hx11'.trans hx12
    refine ⟨fun l hl q hq => ?_, ?_⟩
    · simp only [List.mem_cons, List.not_mem_nil, or_false] at hl
      rcases hl with rfl | rfl <;> (simp only [List.mem_cons, List.not_mem_nil, or_false] at hq; subst hq)
      · exact hpc _ hx12
      · exact ((hb11'.ext hx12').cell 0).trans rfl
    rw [hgi, rm0]
    refine splitW_f (decide_eq_false (by omega)) ?_
    refine ldW_blk (l := .slc) (x := y) (hb11'.ext hx12') (by rfl) ?_
    rw [hw1 hlt]
    refine splitW_i (fun hq => ?_) (fun hq => ?_)
    · have hq := of_decide_eq_true hq
      refine ldW_blk (l := .slc) (x := y) (hb11'.ext hx12') (by rfl) ?_
      rw [← Int.toNat_natCast i]
      refine idx_strH (i := (i : Int)) (hsl9.ext hx12') (by omega) (by omega) (fun p2 hpc2 => ?_)
      rw [Int.toNat_natCast] at hpc2 ⊢
      refine callW_of (roomC_calls (hS9.ext hx12') (k := 0) (by omega) (by omega)) ?_
      rintro _ w13 ⟨rfl, hx13⟩
      refine ⟨_, rfl, ?_⟩
      have hx13' := hx12'.trans hx13
      refine ⟨fun l hl q hq => ?_, ?_⟩
      · simp only [List.mem_cons, List.not_mem_nil, or_false] at hl
        rcases hl with rfl | rfl <;> (simp only [List.mem_cons, List.not_mem_nil, or_false] at hq; subst hq)
        · exact hpc2 _ hx13
        · exact ((hb11'.ext hx13').cell 0).trans rfl
      have hnx := (nparts_lt (r := 110) (len := bs.size) (i := i + 1) (by omega)).1 (by omega)
      rw [hgi, rm0]
      refine splitW_f (bne_eq_false_iff_eq.2 (by omega)) ?_
      exact ⟨⟨i + 1, by omega, rfl, hx13'⟩, by omega⟩
    · exact ⟨⟨i + 1, by omega, rfl, hx12'⟩, by omega⟩
  obtain rfl : i = y.2.1 := by omega
  refine splitW_f (decide_eq_false (by omega)) ?_
  refine ldW_blk (x := early) (hb19.ext hx10) (by rfl) ?_
  refine ldW_blk (l := .slc) (x := y) (hb11'.ext hx10) (by rfl) ?_
  have hyl : y.2.1 ≤ 26 := by omega
  rw [wrap_i64 (by omega) (by omega)]
  refine callW_of (pick_calls w10 (n := early) (m := (y.2.1 : Int) + 1) he0 he1 (by omega)) ?_
  rintro _ w11 ⟨rfl, hw11⟩
  refine ⟨_, rfl, ?_⟩
  rw [hw11]
  obtain ⟨e, hpe, hel⟩ : ∃ e : Nat, pick early ((y.2.1 : Int) + 1) = (e : Int) ∧ e ≤ y.2.1 := by
    have h1 : pick early ((y.2.1 : Int) + 1) = early % ((y.2.1 : Int) + 1) := by unfold pick; rw [if_neg (by omega)]
    have h2 := Int.emod_nonneg early (show ((y.2.1 : Int) + 1) ≠ 0 by omega)
    have h3 := Int.emod_lt_of_pos early (show 0 < ((y.2.1 : Int) + 1) by omega)
    exact ⟨(early % ((y.2.1 : Int) + 1)).toNat, by omega, by omega⟩
  rw [hpe]
  have hb110 := hb19.ext hx10
  refine stW_blk hb110 (by show 0 < 1; omega) ?_
  have hs29 := hx29.size
  have hs10 := hx10.size
  have hr1l : r1 < w2.heap.size := hb1.lt
  have hr2l : r2 < w2.heap.size := hb2.lt
  have oc1 : Only (fun k => k = r1) w10 (w10.setCell ⟨r1, 0, none⟩ (.int .i64 (e : Int))) := Only.of_grown (set_grown w10 r1 0 (.int .i64 (e : Int))) (fun j hj => .inl (by injection hj with hj; exact hj.symm))
  have k1 := hb110.set 0 (.int .i64 (e : Int))
  have hs24' : w2.heap.size ≤ w4.heap.size := hs24
  have hFr : ∀ j, F j → w4.heap.size ≤ j := hFw
  have hS12 := (hS9.ext hx10).only oc1 (fun j hj e => by have := hFr j hj; have : j = r1 := e; omega)
  have hrow : ∀ a, y.1 = some a → w6.heap.size ≤ a.block ∧ a.block < w7.heap.size := fun a ha => ⟨hoy.row _ (by rw [ha]; rfl), hoy.row_lt _ (by rw [ha]; rfl)⟩
  have hs46 := hx46.size
  have hs7 := hx7.size
  have hs9 := hx9.size
  have hsl12 := (hsl9.ext hx10).only oc1 (fun a ha e => by have := hrow a ha; have : a.block = r1 := e; omega)
  have k2 := (hb29.ext hx10).only oc1 (by show ¬ r2 = r1; omega)
  have k11 := (hb11'.ext hx10).only oc1 (by show ¬ r11 = r1; omega)
  have hx012 : Ext w (w10.setCell ⟨r1, 0, none⟩ (.int .i64 (e : Int))) := (hx09.trans hx10).set (p := ⟨r1, 0, none⟩) (by show w.heap.size ≤ r1; omega) _
  have hz12 : w10.heap.size ≤ (w10.setCell ⟨r1, 0, none⟩ (.int .i64 (e : Int))).heap.size := by simp
  generalize w10.setCell ⟨r1, 0, none⟩ (.int .i64 (e : Int)) = w12 at *
  refine new_i fun r35 w13 hb35 hx13 hr35 hz13 => ?_
  refine stW_blk hb35 (by show 0 < 1; omega) ?_
  have hb35' : Blk (w13.setCell ⟨r35, 0, none⟩ (.int .i64 0)) r35 [.int .i64 0] _ := hb35.set 0 (.int .i64 0)
  have hx14 : Ext w12 (w13.setCell ⟨r35, 0, none⟩ (.int .i64 0)) := hx13.set (by show w12.heap.size ≤ r35; omega) _
  have hz14 : (w13.setCell ⟨r35, 0, none⟩ (.int .i64 0)).heap.size = r35 + 1 := by simp [hz13]
  generalize w13.setCell ⟨r35, 0, none⟩ (.int .i64 0) = w14 at *
  refine callW_of (Parts_calls (hS12.ext hx14) hn32) ?_
  rintro v w15 ⟨Q, R0, ⟨f, cap, rfl⟩, hit, hR0, hRx, hQl, hQ, hx15⟩
  refine ⟨_, rfl, false, fun w' => eq_func _ f cap w', splitW_f (by rfl) ?_⟩
  have hx1215 := hx14.trans hx15
  have k1 := k1.ext hx1215
  have k2 := k2.ext hx1215
  have k11 := k11.ext hx1215
  have k35 := hb35'.ext hx15
  have hsl15 := hsl12.ext hx1215
  have hS15 := hS12.ext hx1215
  have hx015 := hx012.trans hx1215
  have hs15 := hx15.size
  have hs14 := hx14.size
  have hFlt : ∀ j, F j → j < w12.heap.size := hS12.lt
  have hsame : ∀ {w' w'' : World}, SameBut w15.heap.size (w15.heap.size + 1) w' w'' → RSp b db S2 F Fd x hb hr nb nr m w' → RSp b db S2 F Fd x hb hr nb nr m w'' := fun hs hS =>
    SpM.sameBut hS hs (fun hf => by have := hFlt _ hf; omega) (fun hf => by have := hFlt _ hf; omega)
  have hsl' : (strsV (okS S2 n)).length = y.2.1 := by simp only [strsV, List.length_map]; omega
  have hb12 : ∀ a, y.1 = some a → a.block < w12.heap.size := fun a ha => by have := (hrow a ha).2; omega
  refine rangeV_i (fun i => ((okS S2 n).getD i ByteArray.empty, ())) ?_
    (fun V i w' => RSp b db S2 F Fd x hb hr nb nr m w' ∧ Blk w' r1 [.int .i64 (e : Int)] 3 ∧ Blk w' r2 [.bool false] 4 ∧ Blk w' r11 [.slice y.1 y.2.1 y.2.2] 45 ∧ Blk w' r35 [.int .i64 (i : Int)] 3 ∧ Sli strE w' y.1 y.2.1 (okS S2 n) ∧ i ≤ e ∧ Ext w w' ∧ (∀ k, V k → w14.heap.size ≤ k) ∧ w15.heap.size ≤ w'.heap.size)
    (fun V c w' => c = .exit 2 ∧ Blk w' r1 [.int .i64 (e : Int)] 3 ∧ Blk w' r2 [.bool false] 4 ∧ Blk w' r35 [.int .i64 (e : Int)] 3 ∧ Ext w w' ∧ (∀ k, V k → w14.heap.size ≤ k) ∧ w15.heap.size ≤ w'.heap.size)
    hit hQl (fun w' w'' hs hS => hsame hs hS) (fun _ _ _ _ => trivial) ?_ ?_ ?_ ?_ ?_ ?_ ?_ ?_
  · intro i hi
    have hi' : i < (okS S2 n).length := by rw [hsl'] at hi; omega
    simp [strsV, hi']
  · intro V i w' hI
    exact hI.1
  · rintro V V' i w' w'' ⟨g1, g2, g3, g4, g5, g6, g7, g8, g9, g10⟩ hO hV hR
    have hno : ∀ k, k < w14.heap.size → ¬ (V k ∨ k = w15.heap.size ∨ k = w15.heap.size + 1) := fun k hk hh => by
      rcases hh with hh | hh | hh
      · have := g9 k hh; omega
      · omega
      · omega
    refine ⟨hR, g2.only hO (hno r1 (by omega)), g3.only hO (hno r2 (by omega)), g4.only hO (hno r11 (by omega)), g5.only hO (hno r35 (by omega)), g6.only hO (fun a ha => hno _ (by have := hb12 a ha; omega)), g7, Only.ext g8 hO (fun j hj => ?_), fun k hk => ?_, ?_⟩
    · have := hx015.size
      rcases hj with hj | rfl | rfl
      · have := g9 j hj; have := hx012.size; omega
      · omega
      · omega
    · rcases hV k hk with e | e
      · exact g9 k e
      · omega
    · have := hO.2.2.2.1; omega
  · rintro V V' c w' w'' ⟨rfl, g2, g3, g5, g8, g9, g10⟩ hO hV
    have hno : ∀ k, k < w14.heap.size → ¬ (V k ∨ k = w15.heap.size ∨ k = w15.heap.size + 1) := fun k hk hh => by
      rcases hh with hh | hh | hh
      · have := g9 k hh; omega
      · omega
      · omega
    refine ⟨rfl, g2.only hO (hno r1 (by omega)), g3.only hO (hno r2 (by omega)), g5.only hO (hno r35 (by omega)), Only.ext g8 hO (fun j hj => ?_), fun k hk => ?_, ?_⟩
    · have := hx015.size
      rcases hj with hj | rfl | rfl
      · have := g9 j hj; have := hx012.size; omega
      · omega
      · omega
    · rcases hV k hk with e | e
      · exact g9 k e
      · omega
    · have := hO.2.2.2.1; omega
  · intro o
    have hx : Ext w15 ((w15.alloc (.deferred (some []))).alloc o) := ((Ext.refl w15).alloc _).alloc _
    exact ⟨hS15.ext hx, k1.ext hx, k2.ext hx, k11.ext hx, k35.ext hx, hsl15.ext hx, by omega, hx015.trans hx, fun k hk => hQ k hk, hx.size⟩
  · intro o
    exact hRx _ _ hR0 (((Ext.refl w15).alloc _).alloc _)
  · rintro V i hi w' G N jump hI hsz hV hVb hG
    have hi' : i < y.2.1 := by rw [hsl'] at hi; exact hi
    refine hG _ w' hI (Nat.le_refl _) (fun _ _ => rfl) ?_
    rintro w16 ⟨g1, g2, g3, g4, g5, g6, g7, g8, g9, g10⟩ hs2 hk2 hNC hN' hJ'
    refine ldW_blk (x := (i : Int)) g5 (by rfl) (ldW_blk (x := (e : Int)) g2 (by rfl) ?_)
    refine splitW_i (fun hq => ?_) (fun hq => ?_)
    · have hq := beq_iff_eq.1 hq
      obtain rfl : i = e := by omega
      exact hJ' (.exit 2) w16 ⟨rfl, g2, g3, g5, g8, g9, by omega⟩ (Nat.le_refl _) (fun _ _ => rfl)
    have hq := beq_eq_false_iff_ne.1 hq
    refine ldW_blk (l := .slc) (x := y) g4 (by rfl) (ldW_blk (x := (i : Int)) g5 (by rfl) ?_)
    refine idx_str g6 (by omega) (by omega) ?_
    rw [Int.toNat_natCast]
    dsimp only
    rw [str_beq]
    refine splitW_f (by rw [decide_eq_true rfl]; rfl) ?_
    refine ldW_blk (x := (i : Int)) g5 (by rfl) ?_
    rw [show IntKind.wrap .i64 ((i : Int) + 1) = ((i + 1 : Nat) : Int) from by rw [wrap_i64 (by omega) (by omega)]; rfl]
    refine stW_blk g5 (by show 0 < 1; omega) ?_
    have oc : Only (fun k => k = r35) w16 (w16.setCell ⟨r35, 0, none⟩ (.int .i64 ((i + 1 : Nat) : Int))) := Only.of_grown (set_grown w16 r35 0 (.int .i64 ((i + 1 : Nat) : Int))) (fun j hj => .inl (by injection hj with hj; exact hj.symm))
    have g5' := g5.set 0 (.int .i64 ((i + 1 : Nat) : Int))
    have hR' : RSp b db S2 F Fd x hb hr nb nr m (w16.setCell ⟨r35, 0, none⟩ (.int .i64 ((i + 1 : Nat) : Int))) := SpM.only g1 oc (fun j hj e => by have := hFlt j hj; have : j = r35 := e; omega)
    have hz16 : (w16.setCell ⟨r35, 0, none⟩ (.int .i64 ((i + 1 : Nat) : Int))).heap.size = w16.heap.size := by simp
    refine hN' _ hR' ⟨hR', g2.only oc (by show ¬ r1 = r35; omega), g3.only oc (by show ¬ r2 = r35; omega), g4.only oc (by show ¬ r11 = r35; omega), g5', g6.only oc (fun a ha e => by have := hb12 a ha; have : a.block = r35 := e; omega), by omega, g8.set (p := ⟨r35, 0, none⟩) (by show w.heap.size ≤ r35; have := hx012.size; omega) _, g9, by omega⟩ (by omega) (fun k hk => ?_)
    refine Below.heap_setCell _ _ _ _ (fun ek => ?_)
    have ek : k = r35 := ek
    rcases hk with hk | hk | hk
    · omega
    · omega
    · have := g9 k hk; omega
  · rintro V w' ⟨g1, g2, g3, g4, g5, g6, g7, g8, g9, g10⟩ _ hsz hdf
    rw [jumpK]
    rw [hsl'] at g5 g7
    obtain rfl : e = y.2.1 := by omega
    refine ldW_blk (x := (y.2.1 : Int)) g5 (by rfl) (ldW_blk (x := (y.2.1 : Int)) g2 (by rfl) ?_)
    refine stW_blk g3 (by show 0 < 1; omega) ?_
    rw [beq_self_eq_true]
    have g3' := g3.set 0 (.bool true)
    refine leave_i ?_ ?_
    · rw [Below.heap_setCell _ _ _ _ (by show w15.heap.size ≠ r2; omega)]
      exact hdf
    have hsb := sameBut_setO (a := w15.heap.size) (b := w15.heap.size + 1) (w := w'.setCell ⟨r2, 0, none⟩ (.bool true)) (o := .deferred none) (.inl rfl)
    refine ldW_blk (x := true) (hsb.blk g3' (by omega)) (by rfl) ⟨rfl, hsb.ext (g8.set (p := ⟨r2, 0, none⟩) (by show w.heap.size ≤ r2; omega) _) (by have := hx015.size; omega)⟩
  · rintro V c w' ⟨rfl, g2, g3, g5, g8, g9, g10⟩ hsz hdf
    rw [jumpK]
    show lookW 2 _ w'
    rw [lookW]
    show (ldW (.int .i64) ⟨r35, 0, none⟩ _) w'
    refine ldW_blk (x := (e : Int)) g5 (by rfl) (ldW_blk (x := (e : Int)) g2 (by rfl) ?_)
    refine stW_blk g3 (by show 0 < 1; omega) ?_
    rw [beq_self_eq_true]
    have g3' := g3.set 0 (.bool true)
    refine leave_i ?_ ?_
    · rw [Below.heap_setCell _ _ _ _ (by show w15.heap.size ≠ r2; omega)]
      exact hdf
    have hsb := sameBut_setO (a := w15.heap.size) (b := w15.heap.size + 1) (w := w'.setCell ⟨r2, 0, none⟩ (.bool true)) (o := .deferred none) (.inl rfl)
    refine ldW_blk (x := true) (hsb.blk g3' (by omega)) (by rfl) ⟨rfl, hsb.ext (g8.set (p := ⟨r2, 0, none⟩) (by show w.heap.size ≤ r2; omega) _) (by have := hx015.size; omega)⟩
end Go.Proofs.YtcjobbcijbkjkaaGreat.V

/- Spaces: several blocks taken, and what Commit comes to: plain. -/
set_option linter.unusedVariables false
set_option linter.unusedSimpArgs false
namespace Go.Proofs.YtcjobbcijbkjkaaGreat.V
open Go Go.Proofs Go.RowKit Crc

theorem freeL_nd (S : Spa) : S.freeL.Nodup := List.Nodup.sublist List.filter_sublist List.nodup_range
theorem take1 {S : Spa} (hl : S.now.length = S.N) (h01 : S.now.getD 0 0 ≠ 0 ∧ S.now.getD 1 0 ≠ 0) (hf : 0 < S.freeN) :
    S.takeI < S.N ∧ 2 ≤ S.takeI ∧ S.isFree S.takeI = true ∧ S.takeN = S.takeI ∧ S.takeE = 0 ∧ S.takeL = S.now.set S.takeI 1 ∧ S.freeL = S.takeI :: ({ S with now := S.now.set S.takeI 1 } : Spa).freeL := by
  obtain ⟨n, hn⟩ : ∃ n, n ∈ S.freeL := by
    unfold Spa.freeN at hf
    cases hq : S.freeL with
    | nil => rw [hq] at hf; simp at hf
    | cons a r => exact ⟨a, List.mem_cons_self⟩
  obtain ⟨h1, h2, h3⟩ := freeL_mem.1 hn
  have hlt : S.takeI < (List.range S.now.length).length := List.findIdx_lt_length_of_exists ⟨n, List.mem_range.2 (by omega), h3⟩
  rw [List.length_range] at hlt
  have hfr : S.isFree S.takeI = true := by
    have := List.findIdx_getElem (p := S.isFree) (xs := List.range S.now.length) (w := by rw [List.length_range]; exact hlt)
    rw [List.getElem_range] at this
    exact this
  obtain ⟨f1, f2, f3⟩ := isFree_iff.1 hfr
  have hno : ∀ j, j < S.takeI → S.isFree j = false := fun j hj => by
    have := List.not_of_lt_findIdx (p := S.isFree) (xs := List.range S.now.length) (i := j) hj
    rw [List.getElem_range] at this
    simpa using this
  have ht2 : 2 ≤ S.takeI := by
    rcases Nat.lt_or_ge S.takeI 2 with hh | hh
    · have : S.takeI = 0 ∨ S.takeI = 1 := by omega
      rcases this with e | e <;> rw [e] at f1 <;> omega
    · exact hh
  refine ⟨by omega, ht2, hfr, ?_, ?_, ?_, ?_⟩
  · unfold Spa.takeN; rw [if_pos hlt]
  · unfold Spa.takeE; rw [if_pos hlt]
  · unfold Spa.takeL; rw [if_pos hlt]
  · refine freeL_take (by omega) ht2 hfr hno rfl (fun j hj => ?_)
    show ((S.now.set S.takeI 1).getD j 0 == 0 && S.held.getD j 0 == 0 && cnt S.mark j == 0) = _
    rw [getD_setN]
    by_cases e : j = S.takeI
    · rw [if_pos ⟨e.symm, by omega⟩, if_pos e]; rfl
    · rw [if_neg (fun h => e h.1.symm), if_neg e]; rfl
namespace Spa
def tk (S : Spa) (k : Nat) : Spa := { S with now := onL S.now (S.freeL.take k) }
end Spa
theorem tk_ok {S : Spa} (hl : S.now.length = S.N) (h01 : S.now.getD 0 0 ≠ 0 ∧ S.now.getD 1 0 ≠ 0) : ∀ k, k ≤ S.freeN → (S.tk k).freeL = S.freeL.drop k ∧ (S.tk k).now.length = S.N ∧ ((S.tk k).now.getD 0 0 ≠ 0 ∧ (S.tk k).now.getD 1 0 ≠ 0)
  | 0, _ => ⟨rfl, hl, h01⟩
  | k + 1, hk => by
    obtain ⟨g1, g2, g3⟩ := tk_ok hl h01 k (by omega)
    have hf : 0 < (S.tk k).freeN := by unfold Spa.freeN at hk ⊢; rw [g1, List.length_drop]; omega
    obtain ⟨t1, t2, t3, t4, t5, t6, t7⟩ := take1 (S := S.tk k) g2 g3 hf
    rw [g1] at t7
    have hkl : k < S.freeL.length := hk
    rw [List.drop_eq_getElem_cons hkl] at t7
    injection t7 with e1 e2
    have et : S.freeL.take (k + 1) = S.freeL.take k ++ [(S.tk k).takeI] := by rw [List.take_add_one, List.getElem?_eq_getElem hkl, e1]; rfl
    have eS : S.tk (k + 1) = { S.tk k with now := (S.tk k).now.set (S.tk k).takeI 1 } := by
      unfold Spa.tk at et ⊢
      rw [et, onL_append]
    refine ⟨by rw [eS, e2], ?_, ?_⟩
    · rw [eS]; show (List.set _ _ _).length = _; rw [List.length_set]; exact g2
    · rw [eS]
      show (List.getD (List.set _ _ _) _ _ ≠ 0 ∧ List.getD (List.set _ _ _) _ _ ≠ 0)
      rw [getD_setN, getD_setN, if_neg (by omega), if_neg (by omega)]
      exact g3
theorem tk_step {S : Spa} (hl : S.now.length = S.N) (h01 : S.now.getD 0 0 ≠ 0 ∧ S.now.getD 1 0 ≠ 0) {k : Nat} (hk : k < S.freeN) :
    (S.tk k).takeN = S.freeL.getD k 0 ∧ (S.tk k).takeE = 0 ∧ ({ S.tk k with now := (S.tk k).takeL } : Spa) = S.tk (k + 1) ∧ S.freeL.take (k + 1) = S.freeL.take k ++ [S.freeL.getD k 0] := by
  obtain ⟨g1, g2, g3⟩ := tk_ok hl h01 k (by omega)
  have hf : 0 < (S.tk k).freeN := by unfold Spa.freeN at hk ⊢; rw [g1, List.length_drop]; omega
  obtain ⟨t1, t2, t3, t4, t5, t6, t7⟩ := take1 (S := S.tk k) g2 g3 hf
  rw [g1] at t7
  have hkl : k < S.freeL.length := hk
  rw [List.drop_eq_getElem_cons hkl] at t7
  injection t7 with e1 e2
  have eg : S.freeL.getD k 0 = (S.tk k).takeI := by rw [List.getD_eq_getElem?_getD, List.getElem?_eq_getElem hkl, ← e1]; rfl
  have et : S.freeL.take (k + 1) = S.freeL.take k ++ [S.freeL.getD k 0] := by rw [List.take_add_one, List.getElem?_eq_getElem hkl, eg, ← e1]; rfl
  refine ⟨by rw [t4, eg], t5, ?_, et⟩
  unfold Spa.tk at *
  rw [et, onL_append, eg, ← t6]
/-! ### Commit -/
namespace Spa
def ns (S : Spa) : List Nat := S.freeL.take S.sup.pages.length
def comC (S : Spa) : List Nat := subs (onL S.now S.ns) S.sup.pages
def next (S : Spa) (root : Nat) : Sup := ⟨S.sup.gen + 1, S.sup.size, S.sup.blocks, root, S.ns⟩
def comE (S : Spa) (root : Nat) : Int := if root ≠ 0 ∧ S.asked root = false then 2 else if root ≠ 0 ∧ S.now.getD root 0 = 0 then 8 else if S.freeN < S.sup.pages.length then 9 else 0
def comD (S : Spa) (root : Nat) : Dev × Int := commitD S.dev S.comC (S.next root) (other S.slot)
def commit (S : Spa) (root : Nat) : Spa × Int :=
  if S.comE root ≠ 0 then (S, S.comE root)
  else if (S.comD root).2 ≠ 0 then ({ S with now := S.comC, dev := (S.comD root).1 }, (S.comD root).2)
  else (⟨(S.comD root).1, S.next root, other S.slot, S.comC, S.comC, none⟩, 0)
end Spa
/-- What the pages of counts are to be. -/
structure PgsOk (S : Spa) : Prop where
  at_ : ∀ p ∈ S.sup.pages, 2 ≤ p ∧ p < S.N ∧ S.now.getD p 0 = 1
  nodup : S.sup.pages.Nodup
  len : S.sup.pages.length = cutsN S.N (perOf S.sup.size)
theorem ns_free {S : Spa} {k : Nat} (hk : k ∈ S.ns) : k < S.N ∧ 2 ≤ k ∧ S.isFree k = true := freeL_mem.1 (List.mem_of_mem_take hk)
theorem ns_nodup (S : Spa) : S.ns.Nodup := List.Nodup.sublist (List.take_sublist _ _) (freeL_nd S)
theorem on_get {S : Spa} (hl : S.now.length = S.N) (k : Nat) : (onL S.now S.ns).getD k 0 = if k ∈ S.ns then 1 else S.now.getD k 0 := onL_get _ _ _ (fun n hn => by rw [hl]; exact (ns_free hn).1)
theorem on_page {S : Spa} (hl : S.now.length = S.N) (hp : PgsOk S) {p : Nat} (hm : p ∈ S.sup.pages) : p ∉ S.ns ∧ (onL S.now S.ns).getD p 0 = 1 := by
  have h1 := (hp.at_ p hm).2.2
  have hn : p ∉ S.ns := fun e => by have := (isFree_iff.1 (ns_free e).2.2).1; omega
  exact ⟨hn, by rw [on_get hl, if_neg hn, h1]⟩
theorem sub_page {S : Spa} (hl : S.now.length = S.N) (hp : PgsOk S) {i : Nat} (hi : i < S.sup.pages.length) : atE (subs (onL S.now S.ns) (S.sup.pages.take i)) (S.sup.pages.getD i 0) = 0 := by
  have hg : S.sup.pages.getD i 0 = S.sup.pages[i] := by rw [List.getD_eq_getElem?_getD, List.getElem?_eq_getElem hi]; rfl
  have hm : S.sup.pages.getD i 0 ∈ S.sup.pages := by rw [hg]; exact List.getElem_mem _
  have hol : (onL S.now S.ns).length = S.N := by rw [onL_length, hl]
  have h1 := hp.at_ _ hm
  have hnt : S.sup.pages.getD i 0 ∉ S.sup.pages.take i := by
    intro e
    have hnd := hp.nodup
    rw [← List.take_append_drop i S.sup.pages, List.drop_eq_getElem_cons hi, List.nodup_append] at hnd
    exact hnd.2.2 _ e _ List.mem_cons_self hg
  have hgt := subs_get (S.sup.pages.take i) (onL S.now S.ns) (S.sup.pages.getD i 0) (List.Nodup.sublist (List.take_sublist _ _) hp.nodup) (fun n hn => by
    have hn' := List.mem_of_mem_take hn
    have := hp.at_ n hn'
    have := (on_page hl hp hn').2
    exact ⟨by omega, by omega, by omega⟩)
  rw [if_neg hnt, (on_page hl hp hm).2] at hgt
  unfold atE
  rw [subs_length, hol, if_neg (by omega), if_neg (by omega)]
theorem comC_get {S : Spa} (hl : S.now.length = S.N) (hp : PgsOk S) (k : Nat) : S.comC.getD k 0 = if k ∈ S.sup.pages then 0 else if k ∈ S.ns then 1 else S.now.getD k 0 := by
  have hol : (onL S.now S.ns).length = S.N := by rw [onL_length, hl]
  unfold Spa.comC
  rw [subs_get _ _ _ hp.nodup (fun n hn => by
    have := hp.at_ n hn
    have := (on_page hl hp hn).2
    exact ⟨by omega, by omega, by omega⟩)]
  split
  · rename_i hm
    rw [(on_page hl hp hm).2]
  · exact on_get hl k
theorem comC_length (S : Spa) : S.comC.length = S.now.length := by unfold Spa.comC; rw [subs_length, onL_length]
end Go.Proofs.YtcjobbcijbkjkaaGreat.V

/- Contracts of the package space: Commit. -/
set_option linter.unusedVariables false
set_option linter.unusedSimpArgs false
namespace Go.Proofs.YtcjobbcijbkjkaaGreat.V
open Go Go.Proofs Go.RowKit Crc

theorem boxAE {ls : List Lf} {w : World} {b : Nat} {a : Addr} {cs rest : List Value} {t : TypeId} {K : LT ls → WP} (o : Nat) (x : LT ls) (h : Blk w b cs t) (ha : a = ⟨b, o, none⟩) (hx : cs.drop o = LT.vals ls x ++ rest) (hK : K x w) : ldAW ls a K w := by
  subst ha
  have := boxAt (o := o) x h hx hK
  rw [add_mk, Nat.zero_add] at this
  exact this
theorem boxC {w : World} {b o : Nat} {a : Addr} {cs : List Value} {t : TypeId} {v : Value} (h : Blk w b cs t) (ha : a = ⟨b, o, none⟩) (hv : cs[o]? = some v) : w.cell? a = some v := by
  subst ha
  rw [h.cell, hv]
def setsL : List Value → Nat → List Value → List Value
  | cs, _, [] => cs
  | cs, k, v :: r => setsL (cs.set k v) (k + 1) r
theorem storable_at {w : World} {b : Nat} {cs : List Value} {t : TypeId} (h : Blk w b cs t) {o : Nat} : ∀ (vs : List Value) (i : Nat), o + i + vs.length ≤ cs.length → (∀ v ∈ vs, v.oneCell' = true) → Storable w ⟨b, o, none⟩ i vs
  | [], _, _, _ => trivial
  | v :: r, i, hl, ho => by
    simp only [List.length_cons] at hl
    refine ⟨ho v List.mem_cons_self, ?_, ?_, storable_at h r (i + 1) (by omega) (fun u hu => ho u (List.mem_cons_of_mem _ hu))⟩
    · rw [add_mk, h.cell]
      exact ⟨_, List.getElem?_eq_getElem (by omega)⟩
    · rw [add_mk]
      exact h.frozen _
theorem setCells_at {b o : Nat} {t : TypeId} : ∀ (vs : List Value) (i : Nat) (w : World) (cs : List Value), Blk w b cs t → Blk (setCells w ⟨b, o, none⟩ i vs) b (setsL cs (o + i) vs) t ∧ Only (fun k => k = b) w (setCells w ⟨b, o, none⟩ i vs)
  | [], i, w, cs, h => ⟨h, Only.refl _ _⟩
  | v :: r, i, w, cs, h => by
    simp only [setCells, add_mk]
    have h2 := h.set (o + i) v
    have o2 : Only (fun k => k = b) w (w.setCell ⟨b, o + i, none⟩ v) := Only.of_grown (set_grown w b (o + i) v) (fun j hj => .inl (by injection hj with hj; exact hj.symm))
    obtain ⟨g1, g2⟩ := setCells_at (o := o) r (i + 1) _ _ h2
    exact ⟨g1, Only.trans o2 g2 (fun j hj => .inl hj)⟩
/-- A part of a box is filled anew. -/
theorem refillE {w : World} {b n : Nat} (o : Nat) {a : Addr} {cs vs : List Value} {t : TypeId} {us : Array Value} {K : WP} (h : Blk w b cs t) (ha : a = ⟨b, o, none⟩) (hl : o + vs.length ≤ cs.length) (hv : ∀ v ∈ vs, v.oneCell' = true) (hu : us.size = n)
    (hK : ∀ w', Blk w' b (setsL cs o vs) t → Only (fun k => k = b) w w' → K w') : (guardW (us.size = n) <| stAW a vs K) w := by
  subst ha
  obtain ⟨g1, g2⟩ := setCells_at (o := o) vs 0 w cs h
  exact ⟨hu, storable_at h vs 0 (by omega) hv, hK _ g1 g2⟩
theorem stE {w : World} {b o : Nat} {a : Addr} {cs : List Value} {t : TypeId} {v : Value} {K : WP} (h : Blk w b cs t) (ha : a = ⟨b, o, none⟩) (ho : o < cs.length) (hK : ∀ w', Blk w' b (cs.set o v) t → Only (fun k => k = b) w w' → K w') : stW a v K w := by
  subst ha
  exact stW_blk h ho (hK _ (h.set o v) (Only.of_grown (set_grown w b o v) (fun j hj => .inl (by injection hj with hj; exact hj.symm))))
variable {w w' : World} {b db : Nat} {S : Spa} {F Fd : Nat → Prop} {x : SLC} {hb hr nb nr : Nat} {m : MkL}
theorem commitS_calls (h : SpM w b db S F Fd x hb hr nb nr m) (h01 : S.now.getD 0 0 ≠ 0 ∧ S.now.getD 1 0 ≠ 0) (hp : PgsOk S) (hgen : S.sup.gen + 1 < 18446744073709551616) (hpen : S.dev.pen.length ≤ 900000) {root : Nat} (hroot : root < 4294967296) :
    Calls Tryz.prog 25 #[.pointer (some ⟨b, 0, none⟩), .int .u32 (root : Int)] w (Ret fun v w' => v = .int .i64 (S.commit root).2 ∧ StepS w b db F (S.commit root).1 w') := by
  have hdim := h.dims
  have hN := hdim.n
  have hFlt := h.lt
  have hfn := freeN_le S
  have hlen := h.ok.now
  have hpgl := h.pgs.len
  have hbF : F b := (h.own b).2 (.inr (by simp [spOwn]))
  have hblt := hFlt b hbF
  have stay : ∀ {w' : World}, Ext w w' → StepS w b db F S w' := fun e => ⟨F, ⟨Fd, x, hb, hr, nb, nr, m, h.ext e⟩, fun k hk => .inl hk, Only.of_ext e⟩
  have fin : ∀ e : Int, S.comE root = e → e ≠ 0 → S.commit root = (S, e) := fun e he0 hne => by unfold Spa.commit; rw [if_pos (by rw [he0]; exact hne), he0]
  have hrn : (root : Int) = 0 ↔ root = 0 := by omega
  have hFw : ∀ j, w.heap.size ≤ j → ¬ F j := fun j hj hf => by have := hFlt j hf; omega
  apply calls25
  unfold S25
  refine joinW_s (fun _ w' => S.comE root = 0 ∧ Ext w w') ?_ (fun J hJ => ?_)
  rotate_left
  · refine splitW_f (by rfl) ?_
    refine joinW_s (fun y w' => y = (decide (root ≠ 0 ∧ S.asked root = false), ()) ∧ w' = w) ?_ (fun J2 hJ2 => ?_)
    rotate_left
    · refine splitW_i (fun hq => ?_) (fun hq => ?_)
      · have hq := bne_iff_ne.1 hq
        refine callW_of (asked_calls h hroot) ?_
        rintro _ w1 ⟨rfl, hw1⟩
        refine ⟨_, rfl, hJ2 _ _ ⟨?_, hw1⟩⟩
        congr 1
        have : root ≠ 0 := fun e => hq (by omega)
        cases hh : S.asked root <;> simp [this, hh]
      · have hq := bne_eq_false_iff_eq.1 hq
        refine hJ2 _ _ ⟨?_, rfl⟩
        congr 1
        have : root = 0 := by omega
        simp [this]
    rintro y w1 ⟨rfl, hw1⟩
    rw [hw1]
    refine splitW_i (fun hq => ?_) (fun hq => ?_)
    · have hq := of_decide_eq_true hq
      rw [fin 2 (by unfold Spa.comE; rw [if_pos hq]) (by decide)]
      exact ⟨rfl, stay (Ext.refl w)⟩
    have hq1 := of_decide_eq_false hq
    have full : ∀ {w2 : World}, Ext w w2 → S.comE root = (if S.freeN < S.sup.pages.length then 9 else 0) →
        (drewW <| ptrW (some (⟨b, 0, none⟩ : Addr)) fun p9 => ldW .slc ((p9.add 1).add 4) fun (u10 : Option Addr × Nat × Nat) =>
          callW Tryz.prog 16 [.pointer (some ⟨b, 0, none⟩)] (.one (.one (.int .i64))) fun (u11 : Int) =>
          heldW [[(((p9.add 1).add 4), (.slice u10.1 u10.2.1 u10.2.2))]] <|
          splitW (decide (u11 < ((u10.2.1 : Nat) : Int))) (fun w' => (Value.int .i64 (9 : Int)) = .int .i64 (S.commit root).2 ∧ StepS w b db F (S.commit root).1 w') (J ())) w2 := by
      intro w2 he2 hE
      refine draw_i fun w3 he3 _ _ => ?_
      have h3 := h.ext (he2.trans he3)
      obtain ⟨t, hbx⟩ := h3.box
      refine ptr_i (boxE (l := .slc) 5 x hbx (by rfl) (by rfl) ?_)
      refine callW_of (freeN_calls h3) ?_
      rintro _ w4 ⟨rfl, he4⟩
      refine ⟨_, rfl, ?_⟩
      have he34 := (he2.trans he3).trans he4
      refine ⟨fun l hl q hq => ?_, ?_⟩
      · simp only [List.mem_singleton] at hl
        subst hl
        simp only [List.mem_singleton] at hq
        subst hq
        exact boxC (hbx.ext he4) (o := 5) (by rfl) (by rfl)
      refine splitW_i (fun hq => ?_) (fun hq => ?_)
      · have hq := of_decide_eq_true hq
        rw [fin 9 (by rw [hE, if_pos (by omega)]) (by decide)]
        exact ⟨rfl, stay he34⟩
      · have hq := of_decide_eq_false hq
        exact hJ _ _ ⟨by rw [hE, if_neg (by omega)], he34⟩
    refine splitW_i (fun hq => ?_) (fun hq => ?_)
    · have hq := bne_iff_ne.1 hq
      have hr0 : root ≠ 0 := fun e => hq (by omega)
      obtain ⟨t, hbx⟩ := h.box
      refine ptr_i (boxE (l := .ptr) 8 (some ⟨nb, 0, none⟩) hbx (by rfl) (by rfl) ?_)
      refine callW_of (nowget_calls h root hroot) ?_
      rintro _ w2 ⟨rfl, hw2⟩
      refine ⟨_, rfl, ?_⟩
      rw [hw2]
      refine splitW_i (fun hz => ?_) (fun hz => ?_)
      · have hz := beq_iff_eq.1 hz
        rw [fin 8 (by unfold Spa.comE; rw [if_neg hq1, if_pos ⟨hr0, by omega⟩]) (by decide)]
        exact ⟨rfl, stay (Ext.refl w)⟩
      · have hz := beq_eq_false_iff_ne.1 hz
        exact full (Ext.refl w) (by unfold Spa.comE; rw [if_neg hq1, if_neg (fun hh => hz (by omega))])
    · have hq := bne_eq_false_iff_eq.1 hq
      exact full (Ext.refl w) (by unfold Spa.comE; rw [if_neg hq1, if_neg (fun hh => hh.1 (by omega))])
  rintro ⟨⟩ w1 ⟨hcE, he1⟩
  have hfree : S.sup.pages.length ≤ S.freeN := by
    unfold Spa.comE at hcE
    split at hcE
    · cases hcE
    split at hcE
    · cases hcE
    split at hcE
    · cases hcE
    · omega
  refine draw_i fun w2 he2 _ _ => ?_
  have h2 := h.ext (he1.trans he2)
  obtain ⟨t, hbx2⟩ := h2.box
  refine ptr_i (boxE (l := .int .u64) 1 (S.sup.gen : Int) hbx2 (by rfl) (by rfl) ?_)
  refine ptr_i (boxAE (ls := [.int .i64, .int .i64]) 2 (S.sup.size, S.sup.blocks, ()) hbx2 (by rfl) (by rfl) ?_)
  dsimp only
  refine new_i fun r19 w3 hb3 he3 hr3 hz3 => ?_
  refine ⟨fun l hl q hq => ?_, ?_⟩
  · simp only [List.mem_cons, List.not_mem_nil, or_false] at hl
    rcases hl with rfl | rfl
    · simp only [List.mem_cons, List.not_mem_nil, or_false] at hq
      rcases hq with rfl | rfl
      · exact boxC (hbx2.ext he3) (o := 2) (by rfl) (by rfl)
      · exact boxC (hbx2.ext he3) (o := 3) (by rfl) (by rfl)
    · simp only [List.mem_cons, List.not_mem_nil, or_false] at hq
      subst hq
      exact boxC (hbx2.ext he3) (o := 1) (by rfl) (by rfl)
  have hwr : IntKind.wrap .u64 ((S.sup.gen : Int) + 1) = ((S.sup.gen + 1 : Nat) : Int) := by rw [show ((S.sup.gen : Int) + 1) = ((S.sup.gen + 1 : Nat) : Int) from rfl, wrap_u64_nat hgen]
  rw [hwr]
  refine refill (vs := sV ⟨S.sup.gen + 1, S.sup.size, S.sup.blocks, root, []⟩ (none, 0, 0)) hb3 rfl (sV_one _ _) rfl ?_
  intro w4 hb4 hx4 hk4 hz4
  have he02 := he1.trans he2
  have hs02 := he02.size
  have hs3 := he3.size
  have he4 : Ext w w4 := hx4 w (he02.trans he3) (by omega)
  have h4 := h.ext he4
  obtain ⟨t, hbx4⟩ := h4.box
  refine ptr_i (boxE (l := .slc) 5 x hbx4 (by rfl) (by rfl) ?_)
  show loopW _ _ _ w4
  refine loopW_i (fun y' w' => ∃ (i : Nat) (A : Option Addr) (c : Nat), i ≤ x.2.1 ∧ y' = ((i : Int), ()) ∧ SpM w' b db (S.tk i) F Fd x hb hr nb nr m ∧ Blk w' r19 (sV ⟨S.sup.gen + 1, S.sup.size, S.sup.blocks, root, []⟩ (A, i, c)) 84 ∧ Owni (numE .u32) 30 w' w4.heap.size A i c (S.freeL.take i) ∧ Only F w w' ∧ w4.heap.size ≤ w'.heap.size) (fun y' => (x.2.1 - y'.1).toNat)
    ⟨0, none, 0, by omega, rfl, h4, hb4, Owni.nil _ _ _, Only.of_ext he4, Nat.le_refl _⟩ ?_
  rintro _ w5 ⟨i, A, c, hi, rfl, hS5, hb5, ho5, o5, hz5⟩
  dsimp only
  by_cases hlt : i < x.2.1
  · refine splitW_t (decide_eq_true (by omega)) ?_
    obtain ⟨q1, q2, q3⟩ := tk_ok hlen h01 i (by omega)
    obtain ⟨t1, t2, t3, t4⟩ := tk_step hlen h01 (k := i) (by omega)
    refine callW_of (takeS_calls hS5 q3) ?_
    rintro _ w6 ⟨rfl, hS6, o6⟩
    rw [t3] at hS6
    refine ⟨(((S.tk i).takeN : Int), (S.tk i).takeE, ()), rfl, ?_⟩
    dsimp only
    rw [t2, t1]
    refine splitW_f (by rfl) ?_
    have hb6 := hb5.only o6 (hFw r19 (by omega))
    have hAr : ∀ j, orow A = some j → w4.heap.size ≤ j := fun j hj => ho5.row j hj
    have ho6 := ho5.only o6 (fun j hj => hFw j (by have := hAr j hj; have := he4.size; omega))
    have hz6 := o6.2.2.2.1
    refine boxF (l := .slc) 4 (A, i, c) hb6 (by rfl) ?_
    dsimp only
    have hle := ho6.le
    refine append_newi (E := numE .u32) (ys := [S.freeL.getD i 0]) (by rfl) rfl elem_u32 ho6 (by omega) (by omega) (by omega) ?_
    intro A' c' w7 ho7 hg7
    have oc7 : Only (fun j => orow A = some j) w6 w7 := Only.of_grown hg7.grown (fun j hj => .inl hj)
    have hb7 := hb6.only oc7 (fun e => by have := hAr _ e; omega)
    have hS7 := hS6.only oc7 (fun j hj e => by have := hAr j e; have := hFlt j hj; have := he4.size; omega)
    have hz7 := hg7.grown.size
    rw [add_mk]
    refine stE hb7 (o := 4) (by rfl) (by show 4 < 5; omega) ?_
    intro w8 hb8 oc8
    have o8 : Only F w w8 := Only.trans (Only.trans (Only.trans o5 o6 (fun j hj => .inl hj)) oc7 (fun j hj => .inr (by have := hAr j hj; have := he4.size; omega))) oc8 (fun j hj => .inr (by have : j = r19 := hj; omega))
    refine ⟨⟨i + 1, A', c', by omega, by rw [wrap_i64 (by omega) (by omega)]; rfl, hS7.only oc8 (fun j hj e => by have := hFlt j hj; have : j = r19 := e; omega), hb8, ?_, o8, by have := oc8.2.2.2.1; omega⟩, by rw [wrap_i64 (by omega) (by omega)]; omega⟩
    rw [t4]
    exact ho7.only oc8 (fun j hj e => by have := ho7.row j hj; have : j = r19 := e; omega)
  obtain rfl : i = x.2.1 := by omega
  refine splitW_f (decide_eq_false (by omega)) ?_
  have enp : x.2.1 = S.sup.pages.length := hpgl.symm
  have hs4 := he4.size
  have hns : S.freeL.take x.2.1 = S.ns := by rw [enp]; rfl
  have hnl : S.ns.length = x.2.1 := by rw [← hns, List.length_take]; unfold Spa.freeN at hfree; omega
  have etk : S.tk x.2.1 = { S with now := onL S.now S.ns } := by unfold Spa.tk; rw [hns]
  rw [etk] at hS5
  rw [hns] at ho5
  obtain ⟨t, hbx5⟩ := hS5.box
  refine ptr_i (boxE (l := .slc) 5 x hbx5 (by rfl) (by rfl) ?_)
  show loopW _ _ _ w5
  have hAr : ∀ j, orow A = some j → w4.heap.size ≤ j := fun j hj => ho5.row j hj
  have hAlt : ∀ j, orow A = some j → j < w5.heap.size := fun j hj => ho5.row_lt j hj
  refine loopW_i (fun y' w' => ∃ (i : Nat), i ≤ x.2.1 ∧ y' = ((i : Int), ()) ∧ SpM w' b db { S with now := subs (onL S.now S.ns) (S.sup.pages.take i) } F Fd x hb hr nb nr m ∧ Blk w' r19 (sV ⟨S.sup.gen + 1, S.sup.size, S.sup.blocks, root, []⟩ (A, x.2.1, c)) 84 ∧ Owni (numE .u32) 30 w' w4.heap.size A x.2.1 c S.ns ∧ Only F w w' ∧ w5.heap.size ≤ w'.heap.size) (fun y' => (x.2.1 - y'.1).toNat)
    ⟨0, by omega, rfl, hS5, hb5, ho5, o5, Nat.le_refl _⟩ ?_
  rintro _ w6 ⟨i, hi, rfl, hS6, hb6, ho6, o6, hz6⟩
  dsimp only
  by_cases hlt : i < x.2.1
  · refine splitW_t (decide_eq_true (by omega)) ?_
    refine idx_num hS6.pgs.sl (by omega) (by omega) ?_
    rw [Int.toNat_natCast]
    obtain ⟨t, hbx6⟩ := hS6.box
    refine ptr_i (boxE (l := .ptr) 8 (some ⟨nb, 0, none⟩) hbx6 (by rfl) (by rfl) ?_)
    have h32 : S.sup.pages.getD i 0 < 4294967296 := h.ok.fits.at_ i
    refine callW_of (sub_now hS6 h32) ?_
    rintro _ w7 ⟨rfl, hS7, hg7⟩
    have hat := sub_page hlen hp (i := i) (by omega)
    refine ⟨((subN (subs (onL S.now S.ns) (S.sup.pages.take i)) (S.sup.pages.getD i 0) : Int), atE (subs (onL S.now S.ns) (S.sup.pages.take i)) (S.sup.pages.getD i 0), ()), rfl, ?_⟩
    dsimp only
    rw [hat]
    refine splitW_f (by rfl) ?_
    have hnrF : F nr := h.nrF
    have o7 : Only F w6 w7 := h.nrOnly hg7
    have et : S.sup.pages.take (i + 1) = S.sup.pages.take i ++ [S.sup.pages.getD i 0] := by
      have hil : i < S.sup.pages.length := by omega
      rw [List.take_add_one, List.getD_eq_getElem?_getD, List.getElem?_eq_getElem hil]; rfl
    refine ⟨⟨i + 1, by omega, by rw [wrap_i64 (by omega) (by omega)]; rfl, ?_, hb6.only o7 (hFw r19 (by omega)), ho6.only o7 (fun j hj => hFw j (by have := hAr j hj; omega)), Only.trans o6 o7 (fun j hj => .inl hj), by have := o7.2.2.2.1; omega⟩, by rw [wrap_i64 (by omega) (by omega)]; omega⟩
    rw [et, subs_append]
    exact hS7
  obtain rfl : i = x.2.1 := by omega
  refine splitW_f (decide_eq_false (by omega)) ?_
  have ecm : subs (onL S.now S.ns) (S.sup.pages.take x.2.1) = S.comC := by rw [List.take_of_length_le (by omega)]; rfl
  rw [ecm] at hS6
  obtain ⟨t, hbx6⟩ := hS6.box
  refine ptr_i (boxE (l := .int .i64) 6 S.slot hbx6 (by rfl) (by rfl) ?_)
  refine callW_of (other_calls w6 S.slot) ?_
  rintro _ w7 ⟨rfl, hw7⟩
  refine ⟨_, rfl, ?_⟩
  rw [hw7]
  refine draw_i fun w8 he8 _ _ => ?_
  have hS8 := hS6.ext he8
  have hb8 := hb6.ext he8
  have ho8 := ho6.ext he8
  obtain ⟨t, hbx8⟩ := hS8.box
  refine ptr_i (boxE (l := .ptr) 0 (some ⟨db, 0, none⟩) hbx8 (by rfl) (by rfl) ?_)
  refine ptr_i (boxE (l := .ptr) 8 (some ⟨nb, 0, none⟩) hbx8 (by rfl) (by rfl) ?_)
  have hb8' : Blk w8 r19 (sV (S.next root) (A, x.2.1, c)) 84 := hb8
  refine boxA (ls := sLs) (sT (S.next root) (A, x.2.1, c)) hb8' rfl ?_
  obtain ⟨q, hnc⟩ := hS8.nowC
  have hff : (S.next root).Fits := ⟨hgen, h.ok.fits.size, h.ok.fits.blocks, hroot, fun p hm => by have := (ns_free hm).1; omega⟩
  have hp8 : Pg w8 (A, x.2.1, c) (S.next root).pages := ⟨ho8.sl, ho8.le.1⟩
  have hFd : ∀ j, Fd j → F j := fun j hj => (h.own j).2 (.inl hj)
  have esz : S.sup.size = S.dev.size := h.ok.size
  have o8 : Only F w w8 := Only.trans o6 (Only.of_ext (F := F) he8) (fun j hj => .inl hj)
  refine callW_of (commit_calls hS8.dev (by rw [← esz]; exact hnc) hff hp8 (fun a ha hf => hFw _ (by have := hAr a.block (by rw [show A = some a from ha]; rfl); omega) (hFd _ hf)) ?_ hpen (other S.slot)) ?_
  · show S.ns.length = cutsN S.comC.length (perOf S.dev.size)
    rw [hnl, enp, hp.len, comC_length, hlen, esz]
  rintro _ w9 ⟨rfl, hst⟩
  refine ⟨_, rfl, ?_⟩
  have hdm := commitD_dim S.dev S.comC (S.next root) (other S.slot)
  obtain ⟨F9, Fd9, hS9, hF9, o9⟩ := hS8.setDev hst hdm
  have hF9' : ∀ k, F9 k → F k ∨ w.heap.size ≤ k := fun k hk => by
    rcases hF9 k hk with e | e
    · exact .inl e
    · exact .inr (Nat.le_trans o8.2.2.2.1 e)
  have o09 : Only F w w9 := Only.trans o8 o9 (fun j hj => .inl hj)
  have eC : S.commit root = if (S.comD root).2 ≠ 0 then ({ S with now := S.comC, dev := (S.comD root).1 }, (S.comD root).2) else (⟨(S.comD root).1, S.next root, other S.slot, S.comC, S.comC, none⟩, 0) := by
    unfold Spa.commit
    rw [if_neg (fun hh => hh hcE)]
  refine splitW_i (fun hq => ?_) (fun hq => ?_)
  · have hq := bne_iff_ne.1 hq
    rw [eC, if_pos (show (S.comD root).2 ≠ 0 from hq)]
    exact ⟨rfl, F9, ⟨Fd9, x, hb, hr, nb, nr, m, hS9⟩, hF9', o09⟩
  have hq := bne_eq_false_iff_eq.1 hq
  rw [eC, if_neg (fun hh => hh (show (S.comD root).2 = 0 from hq))]
  have hz8 := he8.size
  have hz9 := o9.2.2.2.1
  have hA9 : ∀ j, orow A = some j → ¬ F j := fun j hj => hFw j (by have := hAr j hj; omega)
  have hb9 := hb8'.only o9 (hFw r19 (by omega))
  have ho9 := ho8.only o9 hA9
  refine draw_i fun w10 he10 _ _ => ?_
  have hS10 := hS9.ext he10
  have hb10 := hb9.ext he10
  have ho10 := ho9.ext he10
  refine boxA (ls := sLs) (sT (S.next root) (A, x.2.1, c)) hb10 rfl ?_
  obtain ⟨t, hbx10⟩ := hS10.box
  refine ptr_i (boxE (l := .ptr) 8 (some ⟨nb, 0, none⟩) hbx10 (by rfl) (by rfl) ?_)
  obtain ⟨q10, hnc10⟩ := hS10.nowC
  refine callW_of (cntclone_calls hnc10) ?_
  rintro _ w11 ⟨⟨b2, r2, q2, rfl, hc11, hb2, hr2⟩, he11⟩
  refine ⟨some ⟨b2, 0, none⟩, rfl, ?_⟩
  have hb11 := hb10.ext he11
  refine ⟨fun l hl q hq => ?_, ?_⟩
  · simp only [List.mem_singleton] at hl
    subst hl
    simp only [List.mem_cons, List.not_mem_nil, or_false] at hq
    rcases hq with rfl | rfl | rfl | rfl | rfl
    · exact boxC hb11 (o := 0) (by rfl) (by rfl)
    · exact boxC hb11 (o := 1) (by rfl) (by rfl)
    · exact boxC hb11 (o := 2) (by rfl) (by rfl)
    · exact boxC hb11 (o := 3) (by rfl) (by rfl)
    · exact boxC hb11 (o := 4) (by rfl) (by rfl)
  have hS11 := hS10.ext he11
  have ho11 := ho10.ext he11
  obtain ⟨t, hbx11⟩ := hS11.box
  refine ptr_i ?_
  refine refillE (vs := sV (S.next root) (A, x.2.1, c)) 1 hbx11 (by rfl) (by show 1 + 5 ≤ 10; omega) (sV_one _ _) rfl ?_
  intro w12 hb12 oc12
  refine ptr_i (stE hb12 (o := 6) (by rfl) (by show 6 < 10; omega) fun w13 hb13 oc13 => ?_)
  refine ptr_i (stE hb13 (o := 7) (by rfl) (by show 7 < 10; omega) fun w14 hb14 oc14 => ?_)
  refine ptr_i (stE hb14 (o := 9) (by rfl) (by show 9 < 10; omega) fun w15 hb15 oc15 => ?_)
  have ob : Only (fun k => k = b) w11 w15 := Only.trans (Only.trans (Only.trans oc12 oc13 (fun j hj => .inl hj)) oc14 (fun j hj => .inl hj)) oc15 (fun j hj => .inl hj)
  have o15 : Only F w w15 := Only.trans (Only.trans o09 (Only.of_ext (F := F) (he10.trans he11)) (fun j hj => .inl hj)) ob (fun j hj => .inl (by rw [show j = b from hj]; exact hbF))
  have hnd := hS11.nodup
  have hap := hS11.apart
  have hlt11 := hS11.lt
  have hown := hS11.own
  have hz10 := he10.size
  have hz11 := he11.size
  have hz15 := ob.2.2.2.1
  have hin : ∀ k, k ∈ [b, nb, nr] → k ∈ spOwn b hb hr nb nr x m := fun k hk => by
    simp only [List.mem_cons, List.not_mem_nil, or_false] at hk
    rcases hk with rfl | rfl | rfl <;> simp [spOwn]
  have hb9lt : b < w9.heap.size := hS9.lt b ((hS9.own b).2 (.inr (hin b (by simp))))
  have hnb9 : nb < w9.heap.size := hS9.lt nb ((hS9.own nb).2 (.inr (hin nb (by simp))))
  have hnr9 : nr < w9.heap.size := hS9.lt nr ((hS9.own nr).2 (.inr (hin nr (by simp))))
  have hFd9lt : ∀ k, Fd9 k → k < w9.heap.size := fun k hk => hS9.lt k ((hS9.own k).2 (.inl hk))
  have hnbF : F nb := (h.own nb).2 (.inr (by simp [spOwn]))
  have hnrF : F nr := h.nrF
  simp only [spOwn, List.nodup_cons, List.mem_cons, not_or] at hnd
  obtain ⟨⟨n1, n2, n3, n4, n5⟩, ⟨n6, n7, n8, n9⟩, ⟨n10, n11, n12⟩, ⟨n13, n14⟩, n15, n16⟩ := hnd
  have hne2 := hc11.ne
  have hA2 : ∀ k, k ∈ rowL (A, x.2.1, c) → w4.heap.size ≤ k ∧ k < w5.heap.size := by
    intro k hk
    unfold rowL at hk
    cases A with
    | none => simp at hk
    | some a =>
      simp only [Option.map_some, Option.toList_some, List.mem_singleton] at hk
      subst hk
      exact ⟨hAr a.block rfl, hAlt a.block rfl⟩
  have hA3 : ∀ k, k ∈ rowL (A, x.2.1, c) → ¬ Fd9 k := fun k hk hf => by
    have h1 := hA2 k hk
    rcases hF9 k ((hS9.own k).2 (.inl hf)) with e | e
    · exact hFw k (by omega) e
    · omega
  have hrn : (rowL (A, x.2.1, c)).Nodup := by unfold rowL; cases A <;> simp
  obtain ⟨q11, hnc11⟩ := hS11.nowC
  refine ⟨rfl, fun k => Fd9 k ∨ k ∈ spOwn b b2 r2 nb nr (A, x.2.1, c) none, ⟨Fd9, (A, x.2.1, c), b2, r2, nb, nr, none, ⟨⟨t, hb15⟩, hS11.dev.apart ob (fun j hj e => hap b (hin b (by simp)) (by rw [← show j = b from e]; exact hj)), ⟨(ho11.only ob (fun j hj e => by have := hAr j hj; have : j = b := e; omega)).sl, ho8.le.1⟩, ⟨q2, hc11.only ob (by show ¬ b2 = b; omega) (by show ¬ r2 = b; omega)⟩, ⟨q11, hnc11.only ob (fun e => n3 (show nb = b from e).symm) (fun e => n4 (show nr = b from e).symm)⟩, trivial, fun _ => Iff.rfl, ?_, ?_, ?_, ⟨?_, ?_, hff, ?_, ?_, fun l hl => by cases hl⟩⟩⟩, ?_, o15⟩
  · simp only [spOwn, mkBl, List.append_nil, List.nodup_cons, List.mem_cons, not_or]
    refine ⟨⟨by omega, by omega, n3, n4, fun hk => by have := hA2 _ hk; omega⟩, ⟨hne2, by omega, by omega, fun hk => by have := hA2 _ hk; omega⟩, ⟨by omega, by omega, fun hk => by have := hA2 _ hk; omega⟩, ⟨n13, fun hk => by have := hA2 _ hk; have := hFlt nb hnbF; omega⟩, fun hk => by have := hA2 _ hk; have := hFlt nr hnrF; omega, hrn⟩
  · intro k hk hf
    simp only [spOwn, mkBl, List.append_nil, List.mem_cons] at hk
    have := hFd9lt k hf
    rcases hk with rfl | rfl | rfl | rfl | rfl | hk
    · exact hap _ (hin _ (by simp)) hf
    · omega
    · omega
    · exact hap _ (hin _ (by simp)) hf
    · exact hap _ (hin _ (by simp)) hf
    · exact hA3 k hk hf
  · intro k hk
    have := hA2 k hk
    omega
  · show S.sup.size = (S.comD root).1.size
    rw [show (S.comD root).1.size = S.dev.size from hdm.1]; exact esz
  · show S.sup.blocks = (S.comD root).1.blocks
    rw [show (S.comD root).1.blocks = S.dev.blocks from hdm.2]; exact h.ok.blocks
  · show S.comC.length = _
    rw [comC_length, hlen]; rfl
  · show S.comC.length = _
    rw [comC_length, hlen]; rfl
  · rintro k (hk | hk)
    · exact hF9' k ((hS9.own k).2 (.inl hk))
    · simp only [spOwn, mkBl, List.append_nil, List.mem_cons] at hk
      rcases hk with rfl | rfl | rfl | rfl | rfl | hk
      · exact .inl hbF
      · exact .inr (by omega)
      · exact .inr (by omega)
      · exact .inl hnbF
      · exact .inl hnrF
      · have := hA2 k hk
        exact .inr (by omega)
end Go.Proofs.YtcjobbcijbkjkaaGreat.V

/- Contracts of the package space: Open, Root. -/
set_option linter.unusedVariables false
set_option linter.unusedSimpArgs false
namespace Go.Proofs.YtcjobbcijbkjkaaGreat.V
open Go Go.Proofs Go.RowKit Crc

def opnC (d : Dev) : Int × Sup × Int := chooseS (B (d.read 0).1) (B (d.read 1).1)
def pgK (d : Dev) (p : Nat) : Fra × Int := kindR (B (d.read (p : Int)).1) 2
def opnL (d : Dev) : List ByteArray := (opnC d).2.1.pages.map fun p => (pgK d p).1.2.2
def opnOK (d : Dev) : Prop := (opnC d).2.2 = 0 ∧ (opnC d).2.1.size = d.size ∧ (opnC d).2.1.blocks = d.blocks ∧ (∀ p ∈ (opnC d).2.1.pages, (pgK d p).2 = 0 ∧ (pgK d p).1.2.1 = (opnC d).2.1.gen) ∧ loadE d.size d.blocks (opnL d) = 0
def openS (d : Dev) : Spa := ⟨d, (opnC d).2.1, (opnC d).1, loadL (opnL d), loadL (opnL d), none⟩
theorem choose_ok {a b : List UInt8} (h : (chooseS a b).2.2 = 0) : chk (chooseS a b).2.1 = 0 := by
  have key : ∀ c, (getS c).2 = 0 → chk (getS c).1 = 0 := by
    intro c hc
    have h2 := (getS_ok hc).1
    unfold putS at h2
    split at h2
    · rename_i hk
      exact hk
    · rename_i hk
      injection h2 with _ h3
  unfold chooseS at h ⊢
  split at h
  · cases h
  · rename_i h1
    rw [if_neg h1]
    split at h
    · rename_i h2
      rw [if_pos h2]
      refine key b ?_
      rcases h2 with h2 | h2
      · exact Decidable.not_not.1 (fun hb => h1 ⟨h2, hb⟩)
      · exact h2.1
    · rename_i h2
      rw [if_neg h2]
      exact key a (Decidable.not_not.1 (fun ha => h2 (.inl ha)))
theorem choose_fits (a b : List UInt8) : (chooseS a b).2.1.Fits := by
  unfold chooseS
  split
  · exact sup0_fits
  · split
    · exact getS_fits b
    · exact getS_fits a
theorem read_size {d : Dev} (h : d.Ok) (k : Int) : (d.read k).1.size ≤ 4096 := by
  by_cases hk : 0 ≤ k ∧ k < d.blocks
  · have h1 := (h.read hk.1 hk.2).2
    obtain ⟨g1, g2, g3, g4, g5⟩ := geo_room h.geo
    omega
  · unfold Dev.read
    rw [if_pos hk]
    show (ByteArray.empty).size ≤ 4096
    decide
theorem loadE_facts {size blocks : Int} {ps : List ByteArray} (h : loadE size blocks ps = 0) : geoOK size blocks = true ∧ fitsP blocks.toNat (perOf size) ps := by
  unfold loadE at h
  split at h
  · cases h
  · rename_i h1
    split at h
    · cases h
    · rename_i h2
      exact ⟨by cases hh : geoOK size blocks with
        | true => rfl
        | false => exact absurd hh h1, Decidable.not_not.1 h2⟩
theorem geoEq_iff {a b : Int × Int} : geoEq a b = true ↔ a.1 = b.1 ∧ a.2 = b.2 := by simp [geoEq]
theorem open_calls {w : World} {db : Nat} {d : Dev} {Fd : Nat → Prop} (h : DevAt w db d Fd) :
    Calls Tryz.prog 26 #[.pointer (some ⟨db, 0, none⟩)] w (Ret fun v w' => Ext w w' ∧ ((¬ opnOK d ∧ v = .tuple #[.pointer none, .int .i64 10]) ∨ (opnOK d ∧ ∃ b F, v = .tuple #[.pointer (some ⟨b, 0, none⟩), .int .i64 0] ∧ SpAt w' b db (openS d) F ∧ w.heap.size ≤ b ∧ ∀ k, F k → Fd k ∨ w.heap.size ≤ k))) := by
  have hgeo := h.ok.geo
  have hFlt := h.lt
  have hs0 := read_size h.ok 0
  have hs1 := read_size h.ok 1
  apply calls26
  unfold S26
  refine splitW_f (by rfl) ?_
  refine callW_of (read_calls h 0) ?_
  rintro _ w1 ⟨rfl, he1⟩
  refine ⟨((d.read 0).1, (d.read 0).2, ()), rfl, ?_⟩
  refine callW_of (read_calls (h.ext he1) 1) ?_
  rintro _ w2 ⟨rfl, he2⟩
  refine ⟨((d.read 1).1, (d.read 1).2, ()), rfl, ?_⟩
  dsimp only
  refine callW_of (choose_calls w2 (d.read 0).1 (d.read 1).1 (by omega) (by omega)) ?_
  rintro _ w3 ⟨x, rfl, hp3, he3, hx3⟩
  have eC : chooseS (B (d.read 0).1) (B (d.read 1).1) = opnC d := rfl
  rw [eC] at hp3 ⊢
  have hff : (opnC d).2.1.Fits := choose_fits _ _
  refine ⟨((opnC d).1, sT (opnC d).2.1 x, (opnC d).2.2, ()), rfl, ?_⟩
  have he03 := (he1.trans he2).trans he3
  refine boxedS (s := (opnC d).2.1) (x := x) (by rfl) (fun r4 w4 hb4 he4 hr4 => ?_)
  have he04 := he03.trans he4
  refine draw_i fun w5 he5 _ _ => ?_
  have hb5 := hb4.ext he5
  have he05 := he04.trans he5
  have hp5 := (hp3.ext he4).ext he5
  have bad : ∀ {w' : World}, ¬ opnOK d → Ext w w' → (Ext w w' ∧ ((¬ opnOK d ∧ Value.tuple #[.pointer none, .int .i64 (10 : Int)] = .tuple #[.pointer none, .int .i64 10]) ∨ (opnOK d ∧ ∃ b F, Value.tuple #[.pointer none, .int .i64 (10 : Int)] = .tuple #[.pointer (some ⟨b, 0, none⟩), .int .i64 0] ∧ SpAt w' b db (openS d) F ∧ w.heap.size ≤ b ∧ ∀ k, F k → Fd k ∨ w.heap.size ≤ k))) := fun hn he => ⟨he, .inl ⟨hn, rfl⟩⟩
  refine splitW_i (fun hq => ?_) (fun hq => ?_)
  · have hq := bne_iff_ne.1 hq
    exact bad (fun hh => hq hh.1) he05
  have hq0 := bne_eq_false_iff_eq.1 hq
  have hq0 : (opnC d).2.2 = 0 := hq0
  have hchk := choose_ok (a := B (d.read 0).1) (b := B (d.read 1).1) hq0
  obtain ⟨⟨c1, c2, c3, c4⟩, c5, c6⟩ := chk_ok hchk
  have c4 : ((opnC d).2.1.pages.length : Int) = pagesOf (opnC d).2.1.size (opnC d).2.1.blocks := c4
  have hple := pagesOf_le (size := (opnC d).2.1.size) (blocks := (opnC d).2.1.blocks)
  refine boxAE (ls := [.int .i64, .int .i64]) 1 ((opnC d).2.1.size, (opnC d).2.1.blocks, ()) hb5 (by rfl) (by rfl) ?_
  dsimp only
  refine callW_of (geo_calls (h.ext he05)) ?_
  rintro _ w6 ⟨rfl, he6⟩
  refine ⟨(d.size, d.blocks, ()), rfl, ?_⟩
  have hb6 := hb5.ext he6
  have he06 := he05.trans he6
  refine ⟨fun l hl q hq => ?_, ?_⟩
  · simp only [List.mem_singleton] at hl
    subst hl
    simp only [List.mem_cons, List.not_mem_nil, or_false] at hq
    rcases hq with rfl | rfl
    · exact boxC hb6 (o := 1) (by rfl) (by rfl)
    · exact boxC hb6 (o := 2) (by rfl) (by rfl)
  dsimp only
  refine ⟨_, fun w' => neq_geoS w' ((opnC d).2.1.size, (opnC d).2.1.blocks) (d.size, d.blocks) _ _, ?_⟩
  refine splitW_i (fun hq => ?_) (fun hq => ?_)
  · refine bad (fun hh => ?_) he06
    have : geoEq ((opnC d).2.1.size, (opnC d).2.1.blocks) (d.size, d.blocks) = true := geoEq_iff.2 ⟨hh.2.1, hh.2.2.1⟩
    rw [this] at hq
    cases hq
  have hq1 : (opnC d).2.1.size = d.size ∧ (opnC d).2.1.blocks = d.blocks := by
    have : geoEq ((opnC d).2.1.size, (opnC d).2.1.blocks) (d.size, d.blocks) = true := by simpa using hq
    exact geoEq_iff.1 this
  refine boxF (l := .slc) 4 x hb6 (by rfl) ?_
  have hp6 := hp5.ext he6
  have hpl := hp6.len
  have hge : ∀ j, w.heap.size ≤ j → ¬ Fd j := fun j hj hf => by have := hFlt j hf; omega
  have hs06 := he06.size
  refine loopW_i (fun y' w' => ∃ (i : Nat) (A : Option Addr) (c : Nat), i ≤ x.2.1 ∧ y' = ((A, i, c), (i : Int), ()) ∧ Ext w6 w' ∧ Owni strE 9 w' w6.heap.size A i c ((opnL d).take i) ∧ (∀ p ∈ (opnC d).2.1.pages.take i, (pgK d p).2 = 0 ∧ (pgK d p).1.2.1 = (opnC d).2.1.gen)) (fun y' => (x.2.1 - y'.2.1).toNat)
    ⟨0, none, 0, by omega, rfl, Ext.refl _, Owni.nil _ _ _, by simp⟩ ?_
  rintro _ w7 ⟨i, A, c, hi, rfl, he7, ho7, hall⟩
  dsimp only
  have he07 := he06.trans he7
  by_cases hlt : i < x.2.1
  · refine splitW_t (decide_eq_true (by omega)) ?_
    refine idx_num (hp6.sl.ext he7) (by omega) (by omega) ?_
    rw [Int.toNat_natCast]
    have hil : i < (opnC d).2.1.pages.length := by omega
    have hpi : (opnC d).2.1.pages[i]? = some ((opnC d).2.1.pages.getD i 0) := by rw [List.getD_eq_getElem?_getD, List.getElem?_eq_getElem hil]; rfl
    have hpm : (opnC d).2.1.pages.getD i 0 ∈ (opnC d).2.1.pages := by
      obtain ⟨_, e⟩ := List.getElem?_eq_some_iff.1 hpi
      rw [← e]; exact List.getElem_mem _
    have h32 : (opnC d).2.1.pages.getD i 0 < 4294967296 := hff.at_ i
    rw [wrap_i64 (by omega) (by omega)]
    have hrs := read_size h.ok ((opnC d).2.1.pages.getD i 0 : Nat)
    refine callW_of (read_calls (h.ext he07) ((opnC d).2.1.pages.getD i 0 : Nat)) ?_
    rintro _ w8 ⟨rfl, he8⟩
    refine ⟨((d.read ((opnC d).2.1.pages.getD i 0 : Nat)).1, (d.read ((opnC d).2.1.pages.getD i 0 : Nat)).2, ()), rfl, ?_⟩
    dsimp only
    refine callW_of (fkind_calls w8 (d.read ((opnC d).2.1.pages.getD i 0 : Nat)).1 (by omega) 2) ?_
    rintro _ w9 ⟨rfl, he9⟩
    have eK : kindR (B (d.read ((opnC d).2.1.pages.getD i 0 : Nat)).1) 2 = pgK d ((opnC d).2.1.pages.getD i 0) := rfl
    rw [eK]
    refine ⟨(fT (pgK d ((opnC d).2.1.pages.getD i 0)).1, (pgK d ((opnC d).2.1.pages.getD i 0)).2, ()), rfl, ?_⟩
    refine boxed (f := (pgK d ((opnC d).2.1.pages.getD i 0)).1) (fun r15 w10 hb10 he10 hr10 => ?_)
    have he710 := (he8.trans he9).trans he10
    have he010 := he07.trans he710
    have hb4' := hb6.ext (he7.trans he710)
    refine splitW_i (fun hz => ?_) (fun hz => ?_)
    · have hz := bne_iff_ne.1 hz
      exact bad (fun hh => hz (hh.2.2.2.1 _ hpm).1) he010
    have hz0 := bne_eq_false_iff_eq.1 hz
    refine boxF (l := .int .u64) 1 (((pgK d ((opnC d).2.1.pages.getD i 0)).1.2.1 : Nat) : Int) hb10 (by rfl) ?_
    refine box0 (((opnC d).2.1.gen : Nat) : Int) hb4' (by rfl) ?_
    refine splitW_i (fun hz => ?_) (fun hz => ?_)
    · have hz := bne_iff_ne.1 hz
      exact bad (fun hh => hz (by rw [(hh.2.2.2.1 _ hpm).2])) he010
    have hz1 := bne_eq_false_iff_eq.1 hz
    refine boxF (l := .str) 2 (pgK d ((opnC d).2.1.pages.getD i 0)).1.2.2 hb10 (by rfl) ?_
    have ho10 := ho7.ext he710
    have hs710 := he710.size
    have hs67 := he7.size
    refine append_newi (E := strE) (ys := [(pgK d ((opnC d).2.1.pages.getD i 0)).1.2.2]) (by rfl) rfl elem_strK' ho10 (by omega) (by omega) (by omega) ?_
    intro A' c' w11 ho11 hg11
    have hAr : ∀ j, orow A = some j → w6.heap.size ≤ j := fun j hj => ho10.row j hj
    refine ⟨⟨i + 1, A', c', by omega, by rw [wrap_i64 (by omega) (by omega)]; rfl, (he7.trans he710).grown hg11.grown (fun j hj => hAr j hj), ?_, ?_⟩, by rw [wrap_i64 (by omega) (by omega)]; omega⟩
    · have eL : (opnL d)[i]? = some (pgK d ((opnC d).2.1.pages.getD i 0)).1.2.2 := by unfold opnL; rw [List.getElem?_map, hpi]; rfl
      rw [List.take_add_one, eL]
      exact ho11
    · intro p hpm'
      rw [List.take_add_one, hpi] at hpm'
      simp only [Option.toList_some, List.mem_append, List.mem_singleton] at hpm'
      rcases hpm' with e | rfl
      · exact hall p e
      · exact ⟨hz0, by omega⟩
  obtain rfl : i = x.2.1 := by omega
  refine splitW_f (decide_eq_false (by omega)) ?_
  rw [List.take_of_length_le (by omega)] at hall
  have hLl : (opnL d).length = x.2.1 := by unfold opnL; rw [List.length_map]; exact hpl
  rw [List.take_of_length_le (by omega)] at ho7
  refine callW_of (geo_calls (h.ext he07)) ?_
  rintro _ w8 ⟨rfl, he8⟩
  refine ⟨(d.size, d.blocks, ()), rfl, ?_⟩
  dsimp only
  refine callW_of (load_calls (size := d.size) (blocks := d.blocks) (c := c) (ho7.ext he8).sl) ?_
  rintro _ w9 ⟨xo, rfl, hld, he9⟩
  refine ⟨(xo, loadE d.size d.blocks (opnL d), ()), rfl, ?_⟩
  dsimp only
  have he79 := he8.trans he9
  have he09 := he07.trans he79
  refine splitW_i (fun hz => ?_) (fun hz => ?_)
  · have hz := bne_iff_ne.1 hz
    exact bad (fun hh => hz hh.2.2.2.2) he09
  have hz := bne_eq_false_iff_eq.1 hz
  rw [if_pos hz] at hld
  obtain ⟨cb, cr, rfl, hc9, hcb, hcr⟩ := hld
  have hOK : opnOK d := ⟨hq0, hq1.1, hq1.2, hall, hz⟩
  refine draw_i fun w10 he10 _ _ => ?_
  have he69 := he7.trans he79
  have hb10 := hb6.ext (he69.trans he10)
  refine boxA (ls := sLs) (sT (opnC d).2.1 x) hb10 rfl ?_
  have hc10 := hc9.ext he10
  refine callW_of (cntclone_calls hc10) ?_
  rintro _ w11 ⟨⟨b2, r2, q2, rfl, hc11, hb2, hr2⟩, he11⟩
  refine ⟨some ⟨b2, 0, none⟩, rfl, ?_⟩
  have hb11 := hb10.ext he11
  refine ⟨fun l hl q hq => ?_, ?_⟩
  · simp only [List.mem_singleton] at hl
    subst hl
    simp only [List.mem_cons, List.not_mem_nil, or_false] at hq
    rcases hq with rfl | rfl | rfl | rfl | rfl
    · exact boxC hb11 (o := 0) (by rfl) (by rfl)
    · exact boxC hb11 (o := 1) (by rfl) (by rfl)
    · exact boxC hb11 (o := 2) (by rfl) (by rfl)
    · exact boxC hb11 (o := 3) (by rfl) (by rfl)
    · exact boxC hb11 (o := 4) (by rfl) (by rfl)
  refine new_i fun r25 w12 hb12 he12 hr12 hz12 => ?_
  have he011 := (he09.trans he10).trans he11
  have he012 := he011.trans he12
  have hs3 := he03.size
  have hs04 := he04.size
  have hs05 := he05.size
  have hs79 := he79.size
  have hs10 := he10.size
  have hs11 := he11.size
  have hs8 := he8.size
  have hs7 := he7.size
  have hs23 := he3.size
  have hs02 := (he1.trans he2).size
  have hne := hc9.ne
  have hne2 := hc11.ne
  have hcbl := hc9.head.lt
  have hcrl := hc9.row.lt
  have hcb2 := hc11.head.lt
  have hcr2 := hc11.row.lt
  have hA2 : ∀ k, k ∈ rowL x → w.heap.size ≤ k ∧ k < w8.heap.size := by
    intro k hk
    unfold rowL at hk
    cases hxa : x.1 with
    | none => rw [hxa] at hk; simp at hk
    | some a =>
      rw [hxa] at hk
      simp only [Option.map_some, Option.toList_some, List.mem_singleton] at hk
      subst hk
      have h1 := hx3 a hxa
      by_cases hx0 : 0 < x.2.1
      · obtain ⟨a', e1, e2, e3⟩ := hp3.sl.2.2 hx0
        rw [hxa] at e1
        injection e1 with e1
        subst e1
        have hlen3 := hp3.sl.len
        have hm : ((opnC d).2.1.pages)[0]? = some ((opnC d).2.1.pages.getD 0 0) := by rw [List.getD_eq_getElem?_getD, List.getElem?_eq_getElem (by omega)]; rfl
        obtain ⟨a2, g1, g2, g3⟩ := hp3.sl.at_ hm
        rw [hxa] at g1
        injection g1 with g1
        subst g1
        have hcell := g3.1
        have hlt := World.block_lt_of_cell? w3 _ hcell
        have hab : ((a.add (0 * 1)).add 0).block = a.block := by unfold Addr.add; split <;> rfl
        have : a.block < w3.heap.size := by
          have h5 := hlt
          revert h5
          unfold Addr.add
          split <;> intro h5 <;> exact h5
        have hs36 := (he4.trans (he5.trans he6)).size
        omega
      · exfalso
        have h0 : (opnC d).2.1.pages.length = 0 := by omega
        have := fmtN_le (size := d.size) (N := d.blocks.toNat) (by rw [Int.toNat_of_nonneg (by have := geo_room hgeo; omega)]; exact hgeo)
        have hf := (loadE_facts hz).2
        have hf := fitsP_len hf
        rw [hLl] at hf
        unfold fmtN at this
        omega
  have hrn : (rowL x).Nodup := by unfold rowL; cases x.1 <;> simp
  have hdimN := geo_dims hgeo
  refine ⟨he012, .inr ⟨hOK, r25, fun k => Fd k ∨ k ∈ spOwn r25 cb cr b2 r2 x none, rfl, ⟨Fd, x, cb, cr, b2, r2, none, ⟨⟨_, hb12⟩, h.ext he012, hp6.ext (((he69.trans he10).trans he11).trans he12), ⟨[], ?_⟩, ⟨q2, ?_⟩, trivial, fun _ => Iff.rfl, ?_, ?_, ?_, ⟨hq1.1, hq1.2, hff, ?_, ?_, fun l hl => by cases hl⟩⟩⟩, by omega, ?_⟩⟩
  · show Cnt w12 cb cr (opnC d).2.1.size [] (loadL (opnL d))
    rw [hq1.1]
    exact (hc10.ext he11).ext he12
  · show Cnt w12 b2 r2 (opnC d).2.1.size q2 (loadL (opnL d))
    rw [hq1.1]
    exact hc11.ext he12
  · simp only [spOwn, mkBl, List.append_nil, List.nodup_cons, List.mem_cons, not_or]
    refine ⟨⟨by omega, by omega, by omega, by omega, fun hk => by have := hA2 _ hk; omega⟩, ⟨hne, by omega, by omega, fun hk => by have := hA2 _ hk; omega⟩, ⟨by omega, by omega, fun hk => by have := hA2 _ hk; omega⟩, ⟨hne2, fun hk => by have := hA2 _ hk; omega⟩, fun hk => by have := hA2 _ hk; omega, hrn⟩
  · intro k hk
    refine hge k ?_
    simp only [spOwn, mkBl, List.append_nil, List.mem_cons] at hk
    have h08 : w.heap.size ≤ w8.heap.size := (he07.trans he8).size
    rcases hk with rfl | rfl | rfl | rfl | rfl | hk
    · omega
    · omega
    · omega
    · omega
    · omega
    · exact (hA2 k hk).1
  · intro k hk
    have := hA2 k hk
    have := he9.size
    omega
  · obtain ⟨f1, f2⟩ := loadE_facts hz
    obtain ⟨h8, _⟩ := geo8 hgeo
    show (loadL (opnL d)).length = ((opnC d).2.1.blocks).toNat
    rw [loadL_length (show 1 ≤ perOf d.size by have := (perOf_spec h8).1; omega) f2, hq1.2]
  · obtain ⟨f1, f2⟩ := loadE_facts hz
    obtain ⟨h8, _⟩ := geo8 hgeo
    show (loadL (opnL d)).length = ((opnC d).2.1.blocks).toNat
    rw [loadL_length (show 1 ≤ perOf d.size by have := (perOf_spec h8).1; omega) f2, hq1.2]
  · rintro k (hk | hk)
    · exact .inl hk
    · right
      simp only [spOwn, mkBl, List.append_nil, List.mem_cons] at hk
      have h08 : w.heap.size ≤ w8.heap.size := (he07.trans he8).size
      rcases hk with rfl | rfl | rfl | rfl | rfl | hk
      · omega
      · omega
      · omega
      · omega
      · omega
      · exact (hA2 k hk).1
theorem root_calls {w : World} {b db : Nat} {S : Spa} {F Fd : Nat → Prop} {x : SLC} {hb hr nb nr : Nat} {m : MkL} (h : SpM w b db S F Fd x hb hr nb nr m) :
    Calls Tryz.prog 27 #[.pointer (some ⟨b, 0, none⟩)] w (Ret fun v w' => v = .int .u32 (S.sup.root : Int) ∧ w' = w) := by
  apply calls27
  unfold S27
  obtain ⟨t, hbx⟩ := h.box
  exact splitW_f (by rfl) (ptr_i (boxE (l := .int .u32) 4 (S.sup.root : Int) hbx (by rfl) (by rfl) ⟨rfl, rfl⟩))
end Go.Proofs.YtcjobbcijbkjkaaGreat.V

/- Spaces that are well, with what was committed and marked: plain. -/
set_option linter.unusedVariables false
set_option linter.unusedSimpArgs false
namespace Go.Proofs.YtcjobbcijbkjkaaGreat.V
open Go Go.Proofs Go.RowKit Crc

/-! ### Counts, put into pages and loaded again -/
theorem wB_le2 {c : Nat} {r : List UInt8} (hc : c < 65536) : wB (le 2 c ++ r) = c :: wB r := by
  unfold wB
  rw [List.length_append, le_length, show (2 + r.length) / 2 = r.length / 2 + 1 by omega, List.range_succ_eq_map, List.map_cons, List.map_map]
  rw [List.cons.injEq]
  refine ⟨?_, ?_⟩
  · rw [Nat.mul_zero, List.drop_zero, List.take_left' (le_length _ _), lev_le2 hc]
  · apply List.map_congr_left
    intro k _
    simp only [Function.comp]
    rw [show 2 * (k.succ) = (le 2 c).length + 2 * k by rw [le_length]; omega, ← List.drop_drop, List.drop_left]
theorem wB_flat : ∀ cs : List Nat, (∀ c ∈ cs, c < 65536) → wB (cs.flatMap (le 2)) = cs
  | [], _ => rfl
  | c :: r, h => by rw [List.flatMap_cons, wB_le2 (h c List.mem_cons_self), wB_flat r (fun x hx => h x (List.mem_cons_of_mem _ hx))]
theorem chunks_take (l : List Nat) (per : Nat) : ∀ k, (List.range k).flatMap (fun i => (l.drop (i * per)).take per) = l.take (k * per)
  | 0 => by simp
  | k + 1 => by
    rw [List.range_succ, List.flatMap_append, chunks_take l per k, Nat.succ_mul, List.take_add]
    simp
theorem loadL_pages {l : List Nat} {per : Nat} (hp : 1 ≤ per) (h : ∀ c ∈ l, c < 65536) : loadL (pagesL l per) = l := by
  unfold loadL pagesL
  rw [List.flatMap_map]
  have e : ((List.range (cutsN l.length per)).flatMap fun i => wB (B ⟨(pageB l per i).toArray⟩)) = (List.range (cutsN l.length per)).flatMap fun i => (l.drop (i * per)).take per := by
    congr 1
    funext i
    rw [B_mk]
    unfold pageB
    exact wB_flat _ (fun c hc => h c (List.mem_of_mem_drop (List.mem_of_mem_take hc)))
  rw [e, chunks_take, List.take_of_length_le]
  have := mt (cutsN_lt (n := l.length) (k := per) (i := cutsN l.length per) hp).2 (by omega)
  omega
theorem freeN_mono {S S' : Spa} (hN : S'.N = S.N) (h : ∀ n, S.isFree n = true → S'.isFree n = true) : S.freeN ≤ S'.freeN := by
  unfold Spa.freeN Spa.freeL
  rw [← List.countP_eq_length_filter, ← List.countP_eq_length_filter, hN]
  refine List.countP_mono_left (fun n _ hn => ?_)
  rw [Bool.and_eq_true] at hn ⊢
  exact ⟨hn.1, h n hn.2⟩
theorem nodup_sub : ∀ {a b : List Nat}, a.Nodup → (∀ x ∈ a, x ∈ b) → a.length ≤ b.length
  | [], b, _, _ => Nat.zero_le _
  | x :: r, b, hn, h => by
    obtain ⟨hx, hr⟩ := List.nodup_cons.1 hn
    have hb := h x List.mem_cons_self
    have := nodup_sub (a := r) (b := b.erase x) hr (fun y hy => by
      have hyx : y ≠ x := fun e => hx (e ▸ hy)
      exact (List.mem_erase_of_ne hyx).2 (h y (List.mem_cons_of_mem _ hy)))
    rw [List.length_erase_of_mem hb] at this
    have := List.length_pos_of_mem hb
    rw [List.length_cons]
    omega
/-! ### What a commit leaves on the device -/
theorem wrL_reads : ∀ (l : List (Nat × Fra)) (d : Dev), DevG d → (∀ p ∈ l, (p.1 : Int) < d.blocks ∧ ((B p.2.2.2).length : Int) ≤ roomOf d.size) → (l.map (·.1)).Nodup →
    ∀ p ∈ l, ((wrL d l).1.read (p.1 : Int)).1 = mkB (putB d.size.toNat p.2)
  | [], d, _, _, _, p, hp => by cases hp
  | kf :: r, d, h, hl, hnd, p, hp => by
    obtain ⟨h1, h2⟩ := hl kf List.mem_cons_self
    obtain ⟨g1, g2, g3⟩ := writeF_good h h1 h2
    obtain ⟨d1, d2, d3⟩ := writeF_dim d kf.1 kf.2
    have hr := fun p hp => hl p (List.mem_cons_of_mem kf hp)
    have hr' : ∀ p ∈ r, (p.1 : Int) < (writeF d kf.1 kf.2).1.blocks ∧ ((B p.2.2.2).length : Int) ≤ roomOf (writeF d kf.1 kf.2).1.size := fun p hp => by rw [d1, d2]; exact hr p hp
    obtain ⟨k1, k2, k3⟩ := wrL_good r _ g2 hr'
    rw [List.map_cons, List.nodup_cons] at hnd
    unfold wrL
    rw [if_neg (fun hh => hh g1)]
    rcases List.mem_cons.1 hp with rfl | hp
    · rw [k3 (p.1 : Int) (by rw [d2]; exact ⟨by omega, h1⟩) (fun q hq e => hnd.1 (List.mem_map.2 ⟨q, hq, by omega⟩)), g3 _ ⟨by omega, h1⟩, if_pos rfl]
    · have := wrL_reads r _ g2 hr' hnd.2 p hp
      rw [this, d1]
theorem pgFs_fst {gen : Nat} {ps : List Nat} {l : List ByteArray} (h : ps.length = l.length) : (pgFs gen ps l).map (·.1) = ps := by
  unfold pgFs
  rw [List.map_map]
  have : (fun p : Nat × ByteArray => p.1) = Prod.fst := rfl
  show (ps.zip l).map Prod.fst = ps
  rw [List.map_fst_zip (by omega)]
theorem commit_reads {d : Dev} (h : DevG d) {c : List Nat} {s : Sup} {slot : Int} (hchk : chk s = 0) (hsz : s.size = d.size) (hps : ∀ p ∈ s.pages, 2 ≤ p ∧ (p : Int) < d.blocks) (hnd : s.pages.Nodup) (hslot : slot = 0 ∨ slot = 1)
    (hlen : s.pages.length = cutsN c.length (perOf d.size)) :
    ((commitD d c s slot).1.read slot).1 = mkB (putS s).1 ∧ (∀ j : Int, 0 ≤ j → j < d.blocks → j ≠ slot → (∀ p ∈ s.pages, (p : Int) ≠ j) → ((commitD d c s slot).1.read j).1 = (d.read j).1) ∧
      ∀ i, i < s.pages.length → ((commitD d c s slot).1.read ((s.pages.getD i 0 : Nat) : Int)).1 = mkB (putB d.size.toNat ((2 : UInt8), s.gen, (pagesL c (perOf d.size)).getD i ByteArray.empty)) := by
  obtain ⟨z, N, e1, e2, e3, e4, e5, e6, e7, e8⟩ := h.ok.facts
  have hPl := pagesL_length c (perOf d.size)
  have hL : ∀ p ∈ pgFs s.gen s.pages (pagesL c (perOf d.size)), p.1 ∈ s.pages ∧ ((B p.2.2.2).length : Int) ≤ roomOf d.size := by
    intro p hp
    unfold pgFs at hp
    obtain ⟨q, hq, rfl⟩ := List.mem_map.1 hp
    have h1 := (List.of_mem_zip hq).1
    have h2 := (List.of_mem_zip hq).2
    refine ⟨h1, ?_⟩
    unfold pagesL at h2
    obtain ⟨i, _, hi⟩ := List.mem_map.1 h2
    show ((B q.2).length : Int) ≤ _
    rw [← hi, B_mk]
    have := pageB_len c (perOf d.size) i
    omega
  have hL' : ∀ p ∈ pgFs s.gen s.pages (pagesL c (perOf d.size)), (p.1 : Int) < d.blocks ∧ ((B p.2.2.2).length : Int) ≤ roomOf d.size := fun p hp => ⟨(hps _ (hL p hp).1).2, (hL p hp).2⟩
  obtain ⟨w1, w2, w3⟩ := wrL_good _ d h hL'
  have w4 := wrL_reads _ d h hL' (by rw [pgFs_fst (by omega)]; exact hnd)
  obtain ⟨dm1, dm2, dm3⟩ := wrL_dim (pgFs s.gen s.pages (pagesL c (perOf d.size))) d
  have hget := fun i (hi : i < s.pages.length) => pgFs_get (gen := s.gen) (ps := s.pages) (l := pagesL c (perOf d.size)) (by omega) (i := i) (by omega)
  obtain ⟨f1, f2, f3, f4⟩ := flush_good w2
  have fd := flush_dim (wrL d (pgFs s.gen s.pages (pagesL c (perOf d.size)))).1
  unfold commitD
  generalize (pgFs s.gen s.pages (pagesL c (perOf d.size))) = L at *
  generalize hr : (wrL d L) = r at *
  have hp0 : (putS s).2 = 0 := by rw [putS_good hchk]
  have hpl := (putS_length hchk).1
  have hs2 : ((((mkB (putS s).1).size : Nat)) : Int) = r.1.flush.1.size := by rw [mkB_size, hpl, fd.1, dm1, hsz]
  have hsl : 0 ≤ slot ∧ slot < r.1.flush.1.blocks := by rw [fd.2.1, dm2]; omega
  obtain ⟨q1, q2, q3⟩ := write_ok f2.ok hsl hs2 f2.fuse
  have hrw := fun (j : Int) (hj : 0 ≤ j ∧ j < r.1.flush.1.blocks) => read_write f2.ok hsl hs2 (by rw [f2.fuse]; decide) (j := j) hj
  have hw0 := (hrw slot hsl).1
  obtain ⟨y1, y2, y3, y4⟩ := flush_good (d := (r.1.flush.1.write slot (mkB (putS s).1)).1) ⟨q1, q2⟩
  rw [if_neg (fun hh => hh w1), if_neg (fun hh => hh f1), if_neg (fun hh => hh hp0), if_neg (fun hh => hh hw0)]
  refine ⟨?_, fun j hj hjb hjs hno => ?_, fun i hi => ?_⟩
  · rw [y4, (hrw slot hsl).2, if_pos rfl]
  · rw [y4 j, (hrw j (by rw [fd.2.1, dm2]; omega)).2, if_neg hjs, f4 j, w3 j ⟨hj, hjb⟩ (fun p hp => hno p.1 (hL p hp).1)]
  · have hg := hget i hi
    have hm := List.mem_of_getElem? hg
    have h2 := hps _ (hL _ hm).1
    dsimp only at h2
    rw [y4, (hrw _ (by rw [fd.2.1, dm2]; omega)).2, if_neg (by omega), f4, w4 _ hm]
/-! ### Spaces -/
structure HeldOK (S : Spa) : Prop where
  slot : S.slot = 0 ∨ S.slot = 1
  chk : chk S.sup = 0
  cur : getS (B (S.dev.read S.slot).1) = (S.sup, 0)
  old : (getS (B (S.dev.read (other S.slot)).1)).2 ≠ 0 ∨ (getS (B (S.dev.read (other S.slot)).1)).1.gen < S.sup.gen
  pgs : ∀ i, i < S.sup.pages.length → (S.dev.read ((S.sup.pages.getD i 0 : Nat) : Int)).1 = mkB (putB S.dev.size.toNat ((2 : UInt8), S.sup.gen, (pagesL S.held (perOf S.dev.size)).getD i ByteArray.empty))
  fit : ∀ c ∈ S.held, c < 65536
def MW (N : Nat) (ps : List Nat) (pg : PgF) : Option (List Nat) → Option (List Nat) → Prop
  | none, none => True
  | some l, some m => WellC N ps pg l m
  | _, _ => False
structure Great (S : Spa) (R H : List Nat) (M : Option (List Nat)) : Prop where
  good : Good S R
  heldOK : HeldOK S
  hwell : WellC S.N S.sup.pages S.page S.held H
  mwell : MW S.N S.sup.pages S.page S.mark M
  room : S.sup.pages.length ≤ S.freeN
theorem MW.pgs_eq {N : Nat} {ps : List Nat} {pg pg' : PgF} {l m : Option (List Nat)} (h : MW N ps pg l m) (ho : ∀ n, cnt l n ≠ 0 → 2 ≤ n → n < N → pg' n = pg n) : MW N ps pg' l m := by
  cases l with
  | none => cases m with
    | none => trivial
    | some _ => exact h.elim
  | some l => cases m with
    | none => exact h.elim
    | some m =>
      have h : WellC N ps pg l m := h
      refine WellC.pgs_eq h (fun n hn => ho n ?_ ?_ (h.lt hn))
      · have := (usedC_iff.1 hn).2.2
        show l.getD n 0 ≠ 0
        omega
      · exact (usedC_iff.1 hn).1
theorem HeldOK.pgsOk {S : Spa} {R : List Nat} (h : HeldOK S) (hg : Good S R) : PgsOk S := by
  obtain ⟨⟨c1, c2, c3, c4⟩, c5, c6⟩ := chk_ok h.chk
  have hN : S.sup.blocks = (S.N : Int) := hg.dims.blocks
  have h4 := pagesOf_cuts (size := S.sup.size) (N := S.N) (by rw [← hN]; exact c1)
  rw [hN, h4] at c4
  refine ⟨hg.well.pgs, ?_, by unfold fmtN at c4; omega⟩
  rw [List.nodup_iff_pairwise_ne, List.pairwise_iff_getElem]
  intro i j hi hj hij e
  apply (c5 j hj).2.2
  rw [List.getD_eq_getElem?_getD, List.getElem?_eq_getElem hj, Option.getD_some, ← e]
  exact List.mem_take_iff_getElem.2 ⟨i, by omega, rfl⟩
theorem great_put {S : Spa} {R H : List Nat} {M : Option (List Nat)} {p : Page} (h : Great S (p.2.1 ++ R) H M) (ht : 3 ≤ p.1.toNat) (hk : (p.2.1.length : Int) ≤ S.room 0 / 4) (hd : (p.2.2.size : Int) ≤ S.room p.2.1.length) (hfree : S.sup.pages.length < S.freeN) :
    (S.put p).2.2 = 0 ∧ PutOk S (S.put p).1 p (S.put p).2.1 ∧ Great (S.put p).1 ((S.put p).2.1 :: R) H M := by
  obtain ⟨h1, h2, h3⟩ := put_good h.good ht hk hd hfree
  refine ⟨h1, h2, ?_⟩
  generalize (S.put p).1 = S' at *
  generalize (S.put p).2.1 = n at *
  have hN : S'.N = S.N := by unfold Spa.N; rw [h2.sup]
  obtain ⟨f1, f2, f3⟩ := isFree_iff.1 h2.free
  have hb := h.good.dims.blocks
  have hn := h.good.dims.n
  have ho := h.heldOK
  have hslot : ∀ j : Int, j = 0 ∨ j = 1 → (S'.dev.read j).1 = (S.dev.read j).1 := fun j hj => h2.read j (by omega) (by omega) (by have := h2.two; omega)
  refine ⟨h3, ⟨?_, ?_, ?_, ?_, ?_, ?_⟩, ?_, ?_, ?_⟩
  · rw [h2.slot]; exact ho.slot
  · rw [h2.sup]; exact ho.chk
  · rw [h2.slot, h2.sup, hslot _ ho.slot]; exact ho.cur
  · rw [h2.slot, h2.sup, hslot _ (by unfold other; split <;> simp)]; exact ho.old
  · intro i hi
    rw [h2.sup] at hi ⊢
    rw [h2.held, h2.dim.1, h2.read _ (by omega) ?_ ?_]
    · exact ho.pgs i hi
    · have := (h.good.well.pgs (S.sup.pages.getD i 0) (by rw [List.getD_eq_getElem?_getD, List.getElem?_eq_getElem hi]; exact List.getElem_mem _)).2.1
      omega
    · intro e
      have e : S.sup.pages.getD i 0 = n := by omega
      apply h2.pgs
      rw [← e, List.getD_eq_getElem?_getD, List.getElem?_eq_getElem hi]; exact List.getElem_mem _
  · rw [h2.held]; exact ho.fit
  · rw [hN, h2.sup, h2.held]
    exact WellC.pgs_eq h.hwell (fun m hm => h2.other m (fun e => by subst e; have := (usedC_iff.1 hm).2.2; omega) (h.hwell.lt hm))
  · rw [hN, h2.sup, h2.mark]
    exact h.mwell.pgs_eq (fun m hm _ hmN => h2.other m (fun e => by subst e; exact hm f3) hmN)
  · have := h2.freeL
    have hh := h.room
    rw [h2.sup]
    unfold Spa.freeN at hfree ⊢
    rw [this] at hfree
    simp only [List.length_cons] at hfree
    omega
theorem Great.setNow {S : Spa} {R R' H : List Nat} {M : Option (List Nat)} {c : List Nat} (h : Great S R H M) (hg : Good { S with now := c } R') (hr : S.sup.pages.length ≤ ({ S with now := c } : Spa).freeN) : Great { S with now := c } R' H M :=
  ⟨hg, ⟨h.heldOK.slot, h.heldOK.chk, h.heldOK.cur, h.heldOK.old, h.heldOK.pgs, h.heldOK.fit⟩, h.hwell, h.mwell, hr⟩
theorem Great.perm {S : Spa} {R R' H : List Nat} {M : Option (List Nat)} (h : Great S R H M) (hp : R.Perm R') : Great S R' H M := ⟨h.good.perm hp, h.heldOK, h.hwell, h.mwell, h.room⟩
/-- Back to what was committed. -/
theorem great_abort {S : Spa} {R H : List Nat} {M : Option (List Nat)} (h : Great S R H M) : Great { S with now := S.held, mark := none } H H none := by
  have hd := h.good.ok
  refine ⟨⟨⟨hd.size, hd.blocks, hd.fits, hd.held, hd.held, fun l hl => by cases hl⟩, h.good.dev, h.good.fuse, h.good.gen, h.hwell⟩, ⟨h.heldOK.slot, h.heldOK.chk, h.heldOK.cur, h.heldOK.old, h.heldOK.pgs, h.heldOK.fit⟩, h.hwell, trivial, Nat.le_trans h.room (freeN_mono rfl fun n hn => ?_)⟩
  obtain ⟨f1, f2, f3⟩ := isFree_iff.1 hn
  exact isFree_iff.2 ⟨f2, f2, rfl⟩
theorem great_open {S : Spa} {R H : List Nat} {M : Option (List Nat)} (h : Great S R H M) : opnOK S.dev ∧ openS S.dev = { S with now := S.held, mark := none } := by
  have ho := h.heldOK
  have hd := h.good.dims
  have hP := ho.pgsOk h.good
  have hsz := h.good.ok.size
  have hgeo := h.good.dev.geo
  obtain ⟨z, N, e1, e2, e3, e4, e5, e6, e7, e8⟩ := h.good.dev.facts
  have hgs : (getS (B (S.dev.read S.slot).1)).2 = 0 := by rw [ho.cur]
  have eC : opnC S.dev = (S.slot, S.sup, 0) := by
    unfold opnC chooseS
    have h1 := ho.cur
    have h2 := ho.old
    rcases ho.slot with e | e
    · rw [e] at h1 h2 ⊢
      have eo : other 0 = 1 := rfl
      rw [eo] at h2
      rw [if_neg (by rw [h1]; exact fun hh => hh.1 rfl), if_neg (by
        rw [h1]
        rintro (hh | ⟨h3, h4⟩)
        · exact hh rfl
        · rcases h2 with h2 | h2
          · exact h2 h3
          · dsimp only at h4; omega), h1]
    · rw [e] at h1 h2 ⊢
      have eo : other 1 = 0 := rfl
      rw [eo] at h2
      rw [if_neg (by rw [h1]; exact fun hh => hh.2 rfl), if_pos (by
        rw [h1]
        rcases h2 with h2 | h2
        · exact .inl h2
        · exact .inr ⟨rfl, h2⟩), h1]
  have hper : 1 ≤ perOf S.dev.size := by omega
  have hPl : (pagesL S.held (perOf S.dev.size)).length = S.sup.pages.length := by
    rw [pagesL_length, hP.len, h.good.ok.held, hsz]
  have ePg : ∀ i, i < S.sup.pages.length → pgK S.dev (S.sup.pages.getD i 0) = (((2 : UInt8), S.sup.gen, (pagesL S.held (perOf S.dev.size)).getD i ByteArray.empty), 0) := by
    intro i hi
    unfold pgK
    rw [ho.pgs i hi, B_mkB]
    have hez : S.dev.size.toNat = z := by omega
    rw [hez]
    have hpl : (B ((pagesL S.held (perOf S.dev.size)).getD i ByteArray.empty)).length ≤ 2 * perOf S.dev.size := by
      have hi' : i < cutsN S.held.length (perOf S.dev.size) := by rw [← pagesL_length]; omega
      unfold pagesL
      rw [List.getD_eq_getElem?_getD, List.getElem?_map, List.getElem?_range hi']
      show (B ⟨(pageB S.held (perOf S.dev.size) i).toArray⟩).length ≤ _
      rw [B_mk]
      exact pageB_len _ _ _
    have hg := h.good.gen
    have := getR_putB (size := z) (f := ((2 : UInt8), S.sup.gen, (pagesL S.held (perOf S.dev.size)).getD i ByteArray.empty)) (by rw [← e1]; omega) (by omega) (by omega) (by dsimp only; omega) (by dsimp only; omega)
    unfold kindR
    rw [this, if_neg (fun hh => hh.2 rfl)]
  have eL : opnL S.dev = pagesL S.held (perOf S.dev.size) := by
    unfold opnL
    rw [eC]
    refine List.ext_getElem? (fun i => ?_)
    show ((S.sup.pages).map fun p => (pgK S.dev p).1.2.2)[i]? = _
    rw [List.getElem?_map]
    by_cases hi : i < S.sup.pages.length
    · have hpi : S.sup.pages[i]? = some (S.sup.pages.getD i 0) := by rw [List.getD_eq_getElem?_getD, List.getElem?_eq_getElem hi]; rfl
      rw [hpi, Option.map_some, ePg i hi, List.getD_eq_getElem?_getD, List.getElem?_eq_getElem (by omega)]
      rfl
    · rw [List.getElem?_eq_none (by omega), List.getElem?_eq_none (by omega)]; rfl
  have eH : loadL (pagesL S.held (perOf S.dev.size)) = S.held := loadL_pages hper ho.fit
  have hbl := hd.blocks
  have hsb := h.good.ok.blocks
  refine ⟨⟨by rw [eC], by rw [eC]; exact hsz, by rw [eC]; exact hsb, fun p hp => ?_, ?_⟩, ?_⟩
  · rw [eC] at hp ⊢
    obtain ⟨i, hi, e⟩ := List.mem_iff_getElem.1 hp
    have e : S.sup.pages.getD i 0 = p := by rw [List.getD_eq_getElem?_getD, List.getElem?_eq_getElem hi]; exact e
    rw [← e, ePg i hi]
    exact ⟨rfl, rfl⟩
  · rw [eL]
    unfold loadE
    have hhl := h.good.ok.held
    have hbN : S.dev.blocks.toNat = S.held.length := by rw [hhl]; omega
    rw [if_neg (by rw [hgeo]; simp), if_neg, eH, if_pos h.hwell.head]
    rw [hbN]
    exact fun hh => hh (pagesL_sizes _ _)
  · unfold openS
    rw [eC, eL, eH]
end Go.Proofs.YtcjobbcijbkjkaaGreat.V
