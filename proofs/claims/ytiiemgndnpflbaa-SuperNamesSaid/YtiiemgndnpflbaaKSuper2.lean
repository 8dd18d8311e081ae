/- Contracts of the package super: Get. -/
import Derived.Test.YtiiemgndnpflbaaKSuper1
import Derived.Test.YtiiemgndnpflbaaKRead
set_option linter.unusedVariables false
set_option linter.unusedSimpArgs false
namespace Go.Proofs.Ytiiemgndnpflbaa.V
open Go Go.Proofs Go.RowKit Crc

theorem setS {w : World} {r : Nat} {cs : List Value} {t : TypeId} {s : Sup} {x : SLC} {K : (Int × Int × Int × Int × SLC × Unit) → WP} {us : Array Value} (hb : Blk w r cs t) (hl : cs.length = 5) (hu : us.size = 5)
    (hK : ∀ w', Blk w' r (sV s x) t → (∀ w0, Ext w0 w → w0.heap.size ≤ r → Ext w0 w') → (∀ k : Nat, k ≠ r → w'.heap[k]? = w.heap[k]?) → w'.heap.size = w.heap.size → K (sT s x) w') :
    (guardW (us.size = 5) <| stAW (⟨r, 0, none⟩ : Addr) (sV s x) <| ldAW sLs (⟨r, 0, none⟩ : Addr) K) w :=
  refill (vs := sV s x) hb (by rw [hl]; rfl) (sV_one s x) hu fun w' hb' hx hs hz => boxA (ls := sLs) (sT s x) hb' rfl (hK w' hb' hx hs hz)
/-- A super that came back, put into a box of its own. -/
theorem boxedS {w : World} {t : TypeId} {s : Sup} {x : SLC} {K : Nat → WP} {us : Array Value} (hu : us.size = 5) (hK : ∀ r w', Blk w' r (sV s x) t → Ext w w' → w.heap.size ≤ r → K r w') :
    (newW (.cells #[(.int .u64 (0 : Int)), (.int .i64 (0 : Int)), (.int .i64 (0 : Int)), (.int .u32 (0 : Int)), (.slice none 0 0)] t) fun r => guardW (us.size = 5) <| stAW (⟨r, 0, none⟩ : Addr) (sV s x) (K r)) w :=
  box_i (vs := sV s x) (by rfl) (sV_one s x) (fun r w' hb he hr => hK r w' hb he hr) hu
theorem grown_of_set {w w1 w' : World} {r : Nat} (h0 : Ext w w1) (h1 : Ext w w') (hk : ∀ k : Nat, k ≠ r → w'.heap[k]? = w1.heap[k]?) (hz : w'.heap.size = w1.heap.size) : w1.grownBy w' (some r) :=
  ⟨h1.os.trans h0.os.symm, h1.tape.trans h0.tape.symm, h1.output.trans h0.output.symm, by omega, fun k _ hne => hk k (fun e => hne (by rw [e]))⟩
def GetRet (w : World) (bs : List UInt8) (v : Value) (w' : World) : Prop := ∃ x : SLC, v = .tuple #[.agg (sV (getS bs).1 x).toArray, .int .i64 (getS bs).2] ∧ Pg w' x (getS bs).1.pages ∧ Ext w w' ∧ ∀ a, x.1 = some a → w.heap.size ≤ a.block
theorem getRet_0 {w w' : World} {bs : List UInt8} {e : Int} (h : getS bs = (sup0, e)) (he : Ext w w') : GetRet w bs (.tuple #[.agg (sV sup0 (none, 0, 0)).toArray, .int .i64 e]) w' :=
  ⟨(none, 0, 0), by rw [h], by rw [h]; exact Pg.nil w', he, fun a ha => by cases ha⟩
/-- What the reader takes from a super's data. -/
def st (d : List UInt8) : Nat → List UInt8 × List Nat
  | 0 => (d, [0, 0, 0])
  | i + 1 => ((rd (st d i).1 4).2.2, (st d i).2.set i (rd (st d i).1 4).1)
theorem st_len (d : List UInt8) (i : Nat) : (st d i).2.length = 3 := by
  induction i with
  | zero => rfl
  | succ i ih => rw [st, List.length_set, ih]
theorem rd_lt4 (bs : List UInt8) : (rd bs 4).1 < 4294967296 := by
  unfold rd
  split
  · show (0 : Nat) < 4294967296; decide
  · exact lev_lt4 (by rw [List.length_take]; omega)
theorem st3 (d : List UInt8) : ∃ a b c : Nat, (st d 3).2 = [a, b, c] ∧ a < 4294967296 ∧ b < 4294967296 ∧ c < 4294967296 :=
  ⟨(rd d 4).1, (rd (rd d 4).2.2 4).1, (rd (rd (rd d 4).2.2 4).2.2 4).1, rfl, rd_lt4 _, rd_lt4 _, rd_lt4 _⟩
theorem rd_le {k n : Nat} {r : List UInt8} : rd (le k n ++ r) k = (lev (le k n), 0, r) := by
  unfold rd
  rw [if_neg (by rw [List.length_append, le_length]; omega), List.take_left' (le_length _ _), List.drop_left' (le_length _ _)]
theorem st_data {s : Sup} (hc : chk s = 0) (hf : s.Fits) : (st (dataS s) 3).2 = [s.size.toNat, s.blocks.toNat, s.root] ∧ rd (st (dataS s) 3).1 2 = (s.pages.length, 0, wordsB s.pages) := by
  obtain ⟨h1, h2, h3⟩ := chk_ok hc
  obtain ⟨g0, g1, g2, g3, g4⟩ := geo_room h1.1
  have e : dataS s = le 4 s.size.toNat ++ (le 4 s.blocks.toNat ++ (le 4 s.root ++ (le 2 s.pages.length ++ wordsB s.pages))) := by simp [dataS, headS]
  have e1 : st (dataS s) 1 = (le 4 s.blocks.toNat ++ (le 4 s.root ++ (le 2 s.pages.length ++ wordsB s.pages)), [s.size.toNat, 0, 0]) := by
    rw [st, st, e, rd_le, lev4 (by omega)]; rfl
  have e2 : st (dataS s) 2 = (le 4 s.root ++ (le 2 s.pages.length ++ wordsB s.pages), [s.size.toNat, s.blocks.toNat, 0]) := by
    rw [st, e1, rd_le, lev4 (by omega)]; rfl
  have e3 : st (dataS s) 3 = (le 2 s.pages.length ++ wordsB s.pages, [s.size.toNat, s.blocks.toNat, s.root]) := by
    rw [st, e2, rd_le, lev4 hf.root]; rfl
  rw [e3]
  refine ⟨rfl, ?_⟩
  rw [rd_le, lev_le2 (by omega)]
theorem put_data {s : Sup} {bs : List UInt8} (hf : s.Fits) (h : putS s = (bs, 0)) : chk s = 0 ∧ B (kindR bs 1).1.2.2 = dataS s ∧ (kindR bs 1).1.2.1 = s.gen := by
  have e := getS_uniq hf h
  rw [e]
  exact ⟨putS_ok (by rw [h]), fraS_data s, rfl⟩
theorem elem_u32 : ElemK Try.prog 26 25 (.int .u32 0) 1 4 := ⟨by kernel_rfl, by kernel_rfl, by kernel_rfl⟩
theorem numE_flat (k : IntKind) (l : List Nat) : (numE k).flat l = l.map fun n : Nat => (.int k (n : Int) : Value) := by
  induction l with
  | nil => rfl
  | cons a r ih => rw [List.map_cons, ← ih]; rfl
theorem numE_set (k : IntKind) (l : List Nat) (i v : Nat) : ((numE k).flat l).set i (.int k (v : Int)) = (numE k).flat (l.set i v) := by
  rw [numE_flat, numE_flat, List.map_set]
theorem rd_lt2 (bs : List UInt8) : (rd bs 2).1 < 65536 := by
  unfold rd
  split
  · show (0 : Nat) < 65536; decide
  · have h := lev_lt (bs.take 2)
    have h2 : (bs.take 2).length ≤ 2 := by rw [List.length_take]; omega
    have : 256 ^ (bs.take 2).length ≤ 256 ^ 2 := Nat.pow_le_pow_right (by omega) h2
    dsimp only
    omega
theorem sget_calls (w : World) (s : ByteArray) (hs : s.size ≤ 9223372036854775807) : Calls Try.prog 11 #[.string s] w (Ret (GetRet w (B s))) := by
  apply calls11
  unfold S11
  refine new_i fun r1 w1 hb1 he1 hr1 _ => ?_
  have hb1 : Blk w1 r1 (sV sup0 (none, 0, 0)) 28 := hb1
  refine callW_of (fkind_calls w1 s hs 1) ?_
  rintro _ w2 ⟨rfl, he2⟩
  refine ⟨(fT (kindR (B s) 1).1, (kindR (B s) 1).2, ()), rfl, ?_⟩
  have hb1 := hb1.ext he2
  have he2 := he1.trans he2
  refine boxed (f := (kindR (B s) 1).1) fun r3 w3 hb3 he3 hr3 => ?_
  have hb1 := hb1.ext he3
  have he3 := he2.trans he3
  dsimp only
  refine splitW_i (fun hq => ?_) (fun hq => ?_)
  · have hq := bne_iff_ne.1 hq
    exact boxA (ls := sLs) (sT sup0 (none, 0, 0)) hb1 rfl (setS (s := sup0) (x := (none, 0, 0)) hb1 rfl rfl fun w' _ hx _ _ => getRet_0 (getS_e hq) (hx w he3 (by omega)))
  have hk0 := bne_eq_false_iff_eq.1 hq
  have hgen : (kindR (B s) 1).1.2.1 < 18446744073709551616 := by
    unfold kindR
    split
    · decide
    · exact getR_gen (B s)
  have hdata : (B (kindR (B s) 1).1.2.2).length ≤ 4096 := by
    have hg0 : (getR (B s)).2 = 0 := by
      unfold kindR at hk0
      split at hk0
      · cases hk0
      · exact hk0
    obtain ⟨_, _, _, q4, _⟩ := putR_ok (by rw [(getR_ok hg0).2])
    unfold kindR
    split
    · decide
    · rw [(getR_ok hg0).1]; omega
  generalize hfk : (kindR (B s) 1).1 = f at *
  have hds := B_size f.2.2
  refine boxF 2 f.2.2 hb3 (by rfl) ?_
  refine conv_bytes (u := .string) (e := 5) (by kernel_rfl) (by kernel_rfl) (by kernel_rfl) (by omega) ?_
  intro c w4 hsl he4 hs4 hc4
  have hb1 := hb1.ext he4
  have hb3 := hb3.ext he4
  have he4 := he3.trans he4
  have hb14 := hb1
  have hb34 := hb3
  refine callW_of (new_calls hsl (by dsimp only; omega)) ?_
  rintro _ w5 ⟨b, rfl, hbl, hrd, he5⟩
  refine ⟨some ⟨b, 0, none⟩, rfl, ?_⟩
  have hb1 := hb1.ext he5
  have hb3 := hb3.ext he5
  have hr1lt : r1 < w4.heap.size := by exact hb14.lt
  have hr3lt : r3 < w4.heap.size := by exact hb34.lt
  have he5' := he4.trans he5
  refine new_i fun r9 w6 hb9 he6 hr9 hz9 => ?_
  have hrd := hrd.ext he6
  have hb9 : Blk w6 r9 ((numE .u64).flat (st (B f.2.2) 0).2) _ := hb9
  have hb1 := hb1.ext he6
  have hb3 := hb3.ext he6
  have he46 := he5.trans he6
  have hbr := hrd.lt
  have hbr9 : b < r9 := by have := (show Rdr w5 w4.heap.size b _ by assumption).lt; omega
  refine loopW_i (fun y w' => ∃ i : Nat, i ≤ 3 ∧ y = ((i : Int), ()) ∧ Ext w4 w' ∧ w6.heap.size ≤ w'.heap.size ∧ Rdr w' w4.heap.size b (st (B f.2.2) i).1 ∧ Blk w' r9 ((numE .u64).flat (st (B f.2.2) i).2) 61) (fun y => (3 - y.1).toNat) ⟨0, by omega, rfl, he46, Nat.le_refl _, hrd, hb9⟩ ?_
  rintro _ w7 ⟨i, hi, rfl, he7, hz7, hrd7, hb97⟩
  dsimp only
  by_cases hlt : i < 3
  · refine splitW_t (decide_eq_true (by omega)) ?_
    refine callW_of (number_calls (k := 4) hrd7 (by omega) (by omega)) ?_
    rintro _ w8 ⟨rfl, hrd8, hg8⟩
    refine ⟨(((rd (st (B f.2.2) i).1 4).1 : Int), (rd (st (B f.2.2) i).1 4).2.1, ()), rfl, ?_⟩
    dsimp only
    refine guard_i ⟨by omega, by omega⟩ ?_
    have hb98 := hb97.grown hg8 (by simp; omega)
    rw [add_mk, Int.toNat_natCast, Nat.zero_add, Nat.mul_one]
    refine stW_blk hb98 (by rw [(numE .u64).flat_length, st_len]; show i < 3 * 1; omega) ?_
    have hg9 := set_grown w8 r9 i (.int .u64 ((rd (st (B f.2.2) i).1 4).1 : Int))
    have hb99 := hb98.set i (.int .u64 ((rd (st (B f.2.2) i).1 4).1 : Int))
    rw [numE_set] at hb99
    refine ⟨⟨i + 1, by omega, by rw [wrap_i64 (by omega) (by omega)]; rfl, (he7.grown hg8 (fun j hj => by injection hj with hj; omega)).grown hg9 (fun j hj => by injection hj with hj; omega), ?_, hrd8.grown hg9 (fun j hj => by injection hj with hj; omega), hb99⟩, by rw [wrap_i64 (by omega) (by omega)]; omega⟩
    exact Nat.le_trans (Nat.le_trans hz7 hg8.size) hg9.size
  obtain rfl : i = 3 := by omega
  refine splitW_f (decide_eq_false (by omega)) ?_
  refine callW_of (number_calls (k := 2) hrd7 (by omega) (by omega)) ?_
  rintro _ w8 ⟨rfl, hrd8, hg8⟩
  generalize hn : (rd (st (B f.2.2) 3).1 2).1 = n at *
  generalize hr0 : (rd (st (B f.2.2) 3).1 2).2.2 = r0 at *
  refine ⟨((n : Int), (rd (st (B f.2.2) 3).1 2).2.1, ()), rfl, ?_⟩
  dsimp only
  have hn2 : n < 65536 := by rw [← hn]; exact rd_lt2 _
  obtain ⟨a0, a1, a2, e3, l0, l1, l2⟩ := st3 (B f.2.2)
  rw [e3] at hb97
  have hb98 := hb97.grown hg8 (by simp; omega)
  have he8 : Ext w4 w8 := he7.grown hg8 (fun j hj => by injection hj with hj; omega)
  have hb1 : Blk w8 r1 (sV sup0 (none, 0, 0)) 28 := hb14.ext he8
  have hb3 : Blk w8 r3 (fV f) 49 := hb34.ext he8
  refine boxF 1 (f.2.1 : Int) hb3 (by rfl) (guard_i ⟨by omega, by omega⟩ (boxF 0 (a0 : Int) hb98 (by rfl) (guard_i ⟨by omega, by omega⟩ (boxF 1 (a1 : Int) hb98 (by rfl) (guard_i ⟨by omega, by omega⟩ (boxF 2 (a2 : Int) hb98 (by rfl) ?_))))))
  rw [wrap_i64 (x := (a0 : Int)) (by omega) (by omega), wrap_i64 (x := (a1 : Int)) (by omega) (by omega), wrap_u32_nat l2]
  refine refill (vs := sV ⟨f.2.1, a0, a1, a2, []⟩ (none, 0, 0)) hb1 rfl (sV_one _ _) rfl ?_
  intro w9 hb19 hx9 hk9 hz9
  have he9 : Ext w w9 := hx9 w (he4.trans he8) (by omega)
  have hg9 : w8.grownBy w9 (some r1) := by
    have h8 : Ext w w8 := he4.trans he8
    exact ⟨he9.os.trans h8.os.symm, he9.tape.trans h8.tape.symm, he9.output.trans h8.output.symm, by omega, fun k hk hne => hk9 k (fun e => hne (by rw [e]))⟩
  have hrd9 := hrd8.grown hg9 (fun j hj => by injection hj with hj; omega)
  have hput : ∀ {q : Sup}, q.Fits → putS q = (B s, 0) → q = ⟨f.2.1, a0, a1, a2, wordsOf n r0⟩ ∧ r0.length = 4 * n := by
    intro q hqf hq
    obtain ⟨hqc, hqd, hqg⟩ := put_data hqf hq
    rw [hfk] at hqd hqg
    obtain ⟨q1, q2⟩ := st_data hqc hqf
    rw [← hqd] at q1 q2
    rw [e3] at q1
    obtain ⟨c1, c2, c3⟩ := chk_ok hqc
    obtain ⟨g0, g1, g2, g3, g4⟩ := geo_room c1.1
    have en : n = q.pages.length := by rw [← hn, q2]
    have er : r0 = wordsB q.pages := by rw [← hr0, q2]
    have hw : wordsOf n r0 = q.pages := by rw [en, er, wordsOf_wordsB _ hqf.pages]
    have hrl : r0.length = 4 * n := by rw [er, en, wordsB_length]
    rw [hw]
    refine ⟨?_, hrl⟩
    simp only [List.cons.injEq, and_true] at q1
    obtain ⟨q1, q2, q3⟩ := q1
    cases q
    simp only [Sup.mk.injEq, and_true]
    dsimp only at hqg q1 q2 q3 g1 g3
    omega
  have back : ∀ {w' : World} {x : SLC} {z : Sup}, Ext w w' → Blk w' r1 (sV z x) 28 → getS (B s) = (sup0, 4) →
      (guardW ((#[(.int .u64 (0 : Int)), (.int .i64 (0 : Int)), (.int .i64 (0 : Int)), (.int .u32 (0 : Int)), (.slice none 0 0)] : Array Value).size = 5) <| stAW (⟨r1, 0, none⟩ : Addr) [(.int .u64 (0 : Int)), (.int .i64 (0 : Int)), (.int .i64 (0 : Int)), (.int .u32 (0 : Int)), (.slice none 0 0)] <| ldAW sLs (⟨r1, 0, none⟩ : Addr) fun (u : Int × Int × Int × Int × SLC × Unit) => fun w'' => GetRet w (B s) (Value.tuple #[(.agg #[(.int .u64 u.1), (.int .i64 u.2.1), (.int .i64 u.2.2.1), (.int .u32 u.2.2.2.1), (.slice u.2.2.2.2.1.1 u.2.2.2.2.1.2.1 u.2.2.2.2.1.2.2)]), (.int .i64 4)]) w'') w' := by
    intro w' x z he hb hg
    exact setS (s := sup0) (x := (none, 0, 0)) hb rfl rfl fun w'' _ hx _ _ => getRet_0 hg (hx w he (by omega))
  refine loopW_i (fun y w' => ∃ (i : Nat) (x : SLC), i ≤ n ∧ 4 * i ≤ r0.length ∧ y = ((i : Int), ()) ∧ Ext w w' ∧ w9.heap.size ≤ w'.heap.size ∧ Rdr w' w4.heap.size b (r0.drop (4 * i)) ∧ Blk w' r1 (sV ⟨f.2.1, a0, a1, a2, wordsOf i r0⟩ x) 28 ∧ Owni (numE .u32) 25 w' w9.heap.size x.1 x.2.1 x.2.2 (wordsOf i r0)) (fun y => (n - y.1).toNat) ⟨0, (none, 0, 0), by omega, by omega, rfl, he9, Nat.le_refl _, by simpa using hrd9, hb19, Owni.nil _ _ _⟩ ?_
  rintro _ w10 ⟨i, x, hi, hir, rfl, he10, hz10, hrd10, hb10, ho10⟩
  dsimp only
  have hb9lt := hrd9.lt
  have hlx := ho10.len
  rw [wordsOf_length] at hlx
  by_cases hlt : i < n
  · refine splitW_t (decide_eq_true (by omega)) ?_
    refine callW_of (number_calls (k := 4) hrd10 (by omega) (by omega)) ?_
    rintro _ w11 ⟨rfl, hrd11, hg11⟩
    refine ⟨(((rd (r0.drop (4 * i)) 4).1 : Int), (rd (r0.drop (4 * i)) 4).2.1, ()), rfl, ?_⟩
    dsimp only
    have he11 : Ext w w11 := he10.grown hg11 (fun j hj => by injection hj with hj; have := (he4).size; omega)
    have hb11 := hb10.grown hg11 (by simp; omega)
    have ho11 : Owni (numE .u32) 25 w11 w9.heap.size x.1 x.2.1 x.2.2 (wordsOf i r0) := ho10.grown hg11 (fun j hj e => by injection hj with hj; have := ho10.row j e; omega)
    have hrd4 := rd_lt4 (r0.drop (4 * i))
    by_cases hsh : (r0.drop (4 * i)).length < 4
    · have e1 : (rd (r0.drop (4 * i)) 4).2.1 = 7 := by unfold rd; rw [if_pos hsh]
      rw [e1]
      refine splitW_t (by rfl) (back he11 hb11 (getS_4 (by rw [hk0]) ?_))
      intro q hqf hq
      have := (hput hqf hq).2
      rw [List.length_drop] at hsh
      omega
    · have e1 : rd (r0.drop (4 * i)) 4 = (lev ((r0.drop (4 * i)).take 4), 0, r0.drop (4 * (i + 1))) := by
        unfold rd
        rw [if_neg hsh, List.drop_drop]
        rfl
      rw [e1] at hrd11 hrd4 ⊢
      dsimp only at hrd11 hrd4 ⊢
      refine splitW_f (by rfl) (boxF 4 x hb11 (by rfl) ?_)
      rw [wrap_u32_nat hrd4]
      rw [List.length_drop] at hsh
      refine append_newi (E := numE .u32) (ys := [lev ((r0.drop (4 * i)).take 4)]) (by rfl) rfl elem_u32 ho11 (Nat.le_trans hz10 hg11.size) (by omega) (by omega) ?_
      intro A12 c12 w12 ho12 hg12
      have hb12 := hb11.grown hg12.grown (fun e => by have := ho11.row r1 e.symm; omega)
      have he12 : Ext w w12 := he11.grown hg12.grown (fun j hj => by have := ho11.row j hj; have := he9.size; omega)
      have hrd12 := hrd11.grown hg12.grown (fun j hj => by have := ho11.row j hj; omega)
      rw [add_mk]
      refine stW_blk hb12 (by show 0 + 4 < 5; omega) ?_
      have hg13 := set_grown w12 r1 (0 + 4) (.slice A12 (x.2.1 + 1) c12)
      have hb13 := hb12.set (0 + 4) (.slice A12 (x.2.1 + 1) c12)
      rw [← wordsOf_succ] at ho12
      refine ⟨⟨i + 1, (A12, x.2.1 + 1, c12), by omega, by omega, by rw [show (i : Int) + 1 = ((i + 1 : Nat) : Int) by omega, wrap_u64_nat (a := i + 1) (by omega)], he12.grown hg13 (fun j hj => by injection hj with hj; omega), ?_, hrd12.grown hg13 (fun j hj => by injection hj with hj; omega), hb13, ho12.grown hg13 (fun j hj e => by injection hj with hj; have := ho12.row j e; omega)⟩, ?_⟩
      · exact Nat.le_trans (Nat.le_trans (Nat.le_trans hz10 hg11.size) hg12.grown.size) hg13.size
      · have e : (i : Int) + 1 = ((i + 1 : Nat) : Int) := by omega
        rw [e, wrap_u64_nat (by omega)]
        omega
  obtain rfl : i = n := by omega
  refine splitW_f (decide_eq_false (by omega)) ?_
  have hfit : Sup.Fits ⟨f.2.1, a0, a1, a2, wordsOf i r0⟩ := ⟨hgen, by dsimp only; omega, by dsimp only; omega, l2, wordsOf_lt _ _⟩
  have hpg : Pg w10 x (wordsOf i r0) := ⟨ho10.sl, ho10.le.1⟩
  generalize hs1 : (⟨f.2.1, a0, a1, a2, wordsOf i r0⟩ : Sup) = s1 at *
  have hpp : s1.pages = wordsOf i r0 := by rw [← hs1]
  rw [← hpp] at hpg
  refine boxA (ls := sLs) (sT s1 x) hb10 rfl ?_
  refine callW_of (sput_calls hfit hpg) ?_
  rintro _ w11 ⟨rfl, he11⟩
  have ho11 := ho10.ext he11
  refine ⟨(⟨(putS s1).1.toArray⟩, (putS s1).2, ()), rfl, ?_⟩
  dsimp only
  have hb11 := hb10.ext he11
  have hpg11 := hpg.ext he11
  have he11 := he10.trans he11
  have no : putS s1 ≠ (B s, 0) → getS (B s) = (sup0, 4) := fun h => getS_4 (by rw [hk0]) (fun q hqf hq => h (by rw [← (hput hqf hq).1]; exact hq))
  refine splitW_i (fun hz => ?_) (fun hz => ?_)
  · exact back he11 hb11 (no (fun e => bne_iff_ne.1 hz (by rw [e])))
  have hz := bne_eq_false_iff_eq.1 hz
  rw [str_beq, B_mk]
  refine splitW_i (fun hz2 => ?_) (fun hz2 => ?_)
  · exact back he11 hb11 (no (fun e => by rw [e] at hz2; simp at hz2))
  have hz2 : (putS s1).1 = B s := by simpa using hz2
  have hgs := getS_put hfit (show putS s1 = (B s, 0) from Prod.ext hz2 hz)
  refine boxA (ls := sLs) (sT s1 x) hb11 rfl (setS (s := s1) (x := x) hb11 rfl rfl fun w' _ hx hk hz => ⟨x, by rw [hgs]; rfl, ?_, hx w he11 (by omega), fun a ha => by have := ho10.row a.block (by rw [ha]; rfl); have := he9.size; omega⟩)
  rw [hgs]
  have ho' := ho11.grown (grown_of_set he11 (hx w he11 (by omega)) hk hz) (fun j hj e => by injection hj with hj; have := ho10.row j e; omega)
  exact ⟨by dsimp only; rw [hpp]; exact ho'.sl, hpg11.nc⟩
end Go.Proofs.Ytiiemgndnpflbaa.V
