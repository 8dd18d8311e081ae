/- Laws of chapter 11: SuperTurns. -/
import Derived.Test.YtiiemgndnpflbaaL
set_option linter.unusedVariables false
set_option linter.unusedSimpArgs false
namespace Go.Proofs.Ytiiemgndnpflbaa.V
open Go Go.Proofs Go.RowKit Crc

/-- The two blocks, and the super that is to be chosen. -/
def Turn (last : Int) (q : Sup) (b0 b1 : List UInt8) : Prop :=
  (last = 0 ∧ b0 = (putS q).1 ∧ ((getS b1).2 = 0 → (getS b1).1.gen < q.gen)) ∨ (last = 1 ∧ b1 = (putS q).1 ∧ ((getS b0).2 = 0 → (getS b0).1.gen < q.gen))
theorem Turn.cho {last : Int} {q : Sup} {b0 b1 : List UInt8} (h : Turn last q b0 b1) (hf : q.Fits) (hc : chk q = 0) : chooseS b0 b1 = (last, q, 0) := by
  have hg := getS_putS hf hc
  unfold chooseS
  rcases h with ⟨rfl, rfl, h⟩ | ⟨rfl, rfl, h⟩
  · rw [hg, if_neg (by simp), if_neg (by rintro (x | x); exact x rfl; have := h x.1; have := x.2; dsimp only at this; omega)]
  · rw [hg, if_neg (by simp)]
    by_cases h0 : (getS b0).2 = 0
    · rw [if_pos (.inr ⟨rfl, h h0⟩)]
    · rw [if_pos (.inl h0)]
theorem Turn.step {last : Int} {q p : Sup} {b0 b1 : List UInt8} (h : Turn last q b0 b1) (hf : q.Fits) (hc : chk q = 0) (hg : q.gen < p.gen) :
    other last = 1 - last ∧ (other last = 0 ∨ other last = 1) ∧ Turn (other last) p (if other last = 0 then (putS p).1 else b0) (if other last = 0 then b1 else (putS p).1) := by
  have hq := getS_putS hf hc
  rcases h with ⟨rfl, rfl, h⟩ | ⟨rfl, rfl, h⟩
  · refine ⟨rfl, .inr rfl, .inr ⟨rfl, rfl, fun _ => ?_⟩⟩
    show (getS (putS q).1).1.gen < p.gen
    rw [hq]; exact hg
  · refine ⟨rfl, .inl rfl, .inl ⟨rfl, rfl, fun _ => ?_⟩⟩
    show (getS (putS q).1).1.gen < p.gen
    rw [hq]; exact hg
theorem held2 {w : World} {a b : Addr} {u v : Value} {K : WP} (ha : w.cell? a = some u) (hb : w.cell? b = some v) (hK : K w) : heldW [[(a, u)], [(b, v)]] K w := by
  refine ⟨fun l hl p hp => ?_, hK⟩
  simp only [List.mem_cons, List.not_mem_nil, or_false] at hl
  rcases hl with rfl | rfl
  · simp only [List.mem_singleton] at hp; subst hp; exact ha
  · simp only [List.mem_singleton] at hp; subst hp; exact hb
theorem sturns_calls {w : World} {s : Sup} {x : SLC} (hf : s.Fits) (hp : Pg w x s.pages) {a1 : Option Addr} {n1 c1 : Nat} {roots : List Nat} (hrt : Sli (numE .u32) w a1 n1 roots) (hrl : ∀ p ∈ roots, p < 4294967296) :
    Calls Try.prog 7 #[.agg (sV s x).toArray, .slice a1 n1 c1] w (Ret fun v w' => v = .bool true ∧ Ext w w') := by
  apply calls7
  unfold S7
  have hln := hrt.len
  refine new_i fun r1 w1 hb1 he1 hr1 _ => ?_
  have hb1 : Blk w1 r1 (sV s x) 28 := hb1
  have hlt1 := hb1.lt
  refine callW_of (lives_calls w1) ?_
  rintro _ w2 ⟨rfl, he2⟩
  refine ⟨_, rfl, splitW_f (by rfl) ?_⟩
  have hb1 := hb1.ext he2
  have he := he1.trans he2
  have hz2 := he2.size
  refine boxF 4 x hb1 (by rfl) (splitW_i (fun _ => ⟨rfl, he⟩) (fun _ => splitW_i (fun _ => ⟨rfl, he⟩) (fun hn => ?_)))
  have hn := of_decide_eq_false hn
  refine box0 (s.gen : Int) hb1 (by rfl) (splitW_i (fun _ => ⟨rfl, he⟩) (fun hg => ?_))
  have hg := of_decide_eq_false hg
  refine boxA (ls := sLs) (sT s x) hb1 rfl ?_
  refine callW_of (sput_calls hf (hp.ext he)) ?_
  rintro _ w3 ⟨rfl, he3⟩
  refine ⟨(mk (putS s).1, (putS s).2, ()), rfl, ?_⟩
  have hb1 := hb1.ext he3
  have he := he.trans he3
  have hz3 := he3.size
  dsimp only
  refine splitW_i (fun _ => ⟨rfl, he⟩) (fun hz => ?_)
  have hc := putS_ok (bne_eq_false_iff_eq.1 hz)
  refine new_i fun r7 w4 hb7 he4 hr7 _ => ?_
  have hb7 : Blk w4 r7 [.string (mk (putS s).1), .string (mk [])] 9 := hb7
  have hb1 := hb1.ext he4
  have he := he.trans he4
  refine loopW_i (fun y w' => ∃ (i : Nat) (last : Int) (q : Sup) (b0 b1 : ByteArray), i ≤ n1 ∧ y = (last, (i : Int), ()) ∧ Ext w w' ∧ q.Fits ∧ q.gen ≤ 1152921504606846976 + i ∧ chk q = 0 ∧ q.pages = s.pages ∧ Turn last q (B b0) (B b1) ∧ Blk w' r1 (sV q x) 28 ∧ Blk w' r7 [.string b0, .string b1] 9 ∧ b0.size ≤ 4096 ∧ b1.size ≤ 4096) (fun y => (n1 - y.2.1).toNat)
    ⟨0, 0, s, mk (putS s).1, mk [], by omega, rfl, he, hf, by omega, hc, rfl, .inl ⟨rfl, B_mk' _, fun h => ?_⟩, hb1, hb7, by rw [mk_size']; exact putS_size, by rw [mk_size']; exact Nat.zero_le _⟩ ?_
  · exfalso
    have e : (kindR (B (mk [])) 1).2 = 2 := by kernel_rfl
    rw [getS_e (by rw [e]; omega)] at h
    dsimp only at h
    omega
  rintro _ w5 ⟨i, last, q, b0, b1, hi, rfl, hew5, hqf, hqg, hqc, hqp, hturn, hb15, hb75, hs0, hs1⟩
  dsimp only
  have hlast : last = 0 ∨ last = 1 := by rcases hturn with h | h; exact .inl h.1; exact .inr h.1
  have hcho := hturn.cho hqf hqc
  by_cases hlt : i < n1
  · refine splitW_t (decide_eq_true (by omega)) ?_
    have hroot : roots.getD i 0 < 4294967296 := by
      rw [List.getD_eq_getElem?_getD, List.getElem?_eq_getElem (by omega)]
      exact hrl _ (List.getElem_mem _)
    refine draw_i fun w6 he6 _ _ => ?_
    have hb16 := hb15.ext he6
    have hb76 := hb75.ext he6
    have hew := hew5.trans he6
    have hs6 := hrt.ext hew
    have h7lt := hb76.lt
    refine guard_i ⟨by omega, by omega⟩ (ptr_i (boxF 0 b0 hb76 (by rfl) (guard_i ⟨by omega, by omega⟩ (ptr_i (boxF 1 b1 hb76 (by rfl) ?_)))))
    refine ⟨?_, ?_⟩
    · refine callW_of (choose_calls w6 b0 b1 (by omega) (by omega)) ?_
      rintro _ w7 ⟨x14, rfl, hp14, he7, hf14⟩
      rw [hcho]
      refine ⟨(last, sT q x14, 0, ()), rfl, ?_⟩
      dsimp only
      refine new_i fun r wx hbr hex hrr _ => ?_
      have hex : Ext w6 wx := he7.trans hex
      have hrr : w6.heap.size ≤ r := by have := he7.size; omega
      have hb7x := hb76.ext hex
      refine held2 (by rw [add_mk, hb7x.cell]; rfl) (by rw [add_mk, hb7x.cell]; rfl) ?_
      refine refill (vs := sV q x14) hbr rfl (sV_one _ _) rfl ?_
      intro w9 hb15 hx9 hk9 hz9
      have he9 : Ext w6 w9 := hx9 w6 hex hrr
      have hb1 := hb16.ext he9
      have hb7 := hb76.ext he9
      refine splitW_f (by rfl) (splitW_f (by simp) ?_)
      refine box0 (q.gen : Int) hb15 (by rfl) (box0 (q.gen : Int) hb1 (by rfl) (splitW_f (by simp) ?_))
      refine boxF 3 (q.root : Int) hb15 (by rfl) (boxF 3 (q.root : Int) hb1 (by rfl) (splitW_f (by simp) ?_))
      refine boxA (ls := sLs) (sT q x) hb1 rfl ?_
      refine boxedS (s := q) (x := x) rfl fun r21 w10 hb21 he10 hr21 => ?_
      refine draw_i fun w11 he11 hz11 _ => ?_
      have he911 := he10.trans he11
      have hb21 := hb21.ext he11
      have hb1 := hb1.ext he911
      have hb7 := hb7.ext he911
      have hz9' := he9.size
      have he11 : Ext w6 w11 := he9.trans he911
      have hs11 : Sli (numE .u32) w11 a1 n1 roots := hs6.ext he11
      refine box0 (q.gen : Int) hb1 (by rfl) (guard_i ⟨by omega, by omega⟩ ?_)
      obtain ⟨a, ha, hsp, hcc⟩ := hs6.2.2 (by omega)
      refine ⟨a, ha, ?_⟩
      have h6 : w6.cell? (a.add (Int.toNat (i : Int) * 1)) = some (.int .u32 ((roots.getD i 0 : Nat) : Int)) := by
        rw [Int.toNat_natCast, Nat.mul_one]
        refine hcc i _ ?_
        rw [numE_flat, List.getElem?_map, List.getD_eq_getElem?_getD, List.getElem?_eq_getElem (by omega)]
        rfl
      have hcell := he11.cell h6
      have hbl := World.block_lt_of_cell? w6 _ h6
      refine ld_i (l := .int .u32) (x := ((roots.getD i 0 : Nat) : Int)) hcell ?_
      have hgw : IntKind.wrap .u64 ((q.gen : Int) + 1) = ((q.gen + 1 : Nat) : Int) := by rw [show (q.gen : Int) + 1 = ((q.gen + 1 : Nat) : Int) by omega, wrap_u64_nat (by omega)]
      rw [hgw]
      refine stW_blk hb21 (by show 0 < 5; omega) ?_
      have hg12 := set_grown w11 r21 0 (.int .u64 ((q.gen + 1 : Nat) : Int))
      have hb21 := hb21.set 0 (.int .u64 ((q.gen + 1 : Nat) : Int))
      refine held1 (hg12.cell hcell (fun e => by injection e with e; omega)) ?_
      rw [add_mk]
      refine stW_blk hb21 (by show 0 + 3 < 5; omega) ?_
      have hg13 := set_grown (w11.setCell ⟨r21, 0, none⟩ (.int .u64 ((q.gen + 1 : Nat) : Int))) r21 (0 + 3) (.int .u32 ((roots.getD i 0 : Nat) : Int))
      have hb21 : Blk _ r21 (sV ⟨q.gen + 1, q.size, q.blocks, roots.getD i 0, q.pages⟩ x) 28 := hb21.set (0 + 3) (.int .u32 ((roots.getD i 0 : Nat) : Int))
      have hg1213 := grownBy_tr hg12 hg13 (fun j hj => .inl hj)
      generalize hw13 : (w11.setCell ⟨r21, 0, none⟩ (.int .u64 ((q.gen + 1 : Nat) : Int))).setCell ⟨r21, 0 + 3, none⟩ (.int .u32 ((roots.getD i 0 : Nat) : Int)) = w13 at hb21 hg1213 ⊢
      clear hg12 hg13 hw13
      have he13 : Ext w6 w13 := he11.grown hg1213 (fun j hj => by injection hj with hj; omega)
      have hb1 := hb16.ext he13
      have hb7 := hb76.ext he13
      generalize hpd : (⟨q.gen + 1, q.size, q.blocks, roots.getD i 0, q.pages⟩ : Sup) = p at hb21
      have hpf : p.Fits := by rw [← hpd]; exact ⟨by dsimp only; omega, hqf.size, hqf.blocks, hroot, hqf.pages⟩
      have hpp : p.pages = s.pages := by rw [← hpd]; exact hqp
      have hpg : p.gen = q.gen + 1 := by rw [← hpd]
      have hew13 : Ext w w13 := hew.trans he13
      refine boxA (ls := sLs) (sT p x) hb21 rfl ?_
      refine callW_of (sput_calls hpf (by rw [hpp]; exact hp.ext hew13)) ?_
      rintro _ w14 ⟨rfl, he14⟩
      refine ⟨(mk (putS p).1, (putS p).2, ()), rfl, ?_⟩
      dsimp only
      have hew14 : Ext w w14 := hew13.trans he14
      have hb1 := hb1.ext he14
      have hb7 := hb7.ext he14
      have hb21 := hb21.ext he14
      have hi1 : IntKind.wrap .i64 ((i : Int) + 1) = ((i + 1 : Nat) : Int) := by rw [wrap_i64 (by omega) (by omega)]; omega
      rw [hi1]
      refine splitW_i (fun _ => ⟨⟨i + 1, last, q, b0, b1, by omega, rfl, hew14, hqf, by omega, hqc, hqp, hturn, hb1, hb7, hs0, hs1⟩, by omega⟩) (fun hz => ?_)
      have hpc := putS_ok (bne_eq_false_iff_eq.1 hz)
      obtain ⟨o1, o2, o3⟩ := hturn.step (p := p) hqf hqc (by omega)
      refine callW_of (other_calls w14 last) ?_
      rintro _ w14 ⟨rfl, hw⟩
      subst hw
      refine ⟨_, rfl, ?_⟩
      have ho1 : IntKind.wrap .i64 (1 - last) = other last := by rw [o1, wrap_i64 (by omega) (by omega)]
      rw [ho1]
      have hb21lt := hb21.lt
      refine splitW_f (by simp) (guard_i ⟨by omega, by omega⟩ (ptr_i ?_))
      rw [add_mk, Nat.zero_add, Nat.mul_one]
      refine stW_blk hb7 (by show (other last).toNat < 2; omega) ?_
      have hg15 := set_grown w14 r7 (other last).toNat (.string (mk (putS p).1))
      have hb7 := hb7.set (other last).toNat (.string (mk (putS p).1))
      have hb1 := hb1.grown hg15 (by simp; omega)
      have hb21 := hb21.grown hg15 (by simp; omega)
      have hew15 : Ext w _ := hew14.grown hg15 (fun j hj => by injection hj with hj; omega)
      refine boxA (ls := sLs) (sT p x) hb21 rfl (refill (vs := sV p x) hb1 rfl (sV_one _ _) rfl ?_)
      intro w16 hb1 hx16 hk16 hz16
      have hew16 := hx16 w hew15 (by omega)
      have hb7 : Blk w16 r7 _ _ := (hk16 r7 (by omega)).trans hb7
      have hm : (mk (putS p).1).size ≤ 4096 := by rw [mk_size']; exact putS_size
      rcases o2 with o | o
      · rw [o] at o3 hb7
        exact ⟨⟨i + 1, other last, p, mk (putS p).1, b1, by omega, rfl, hew16, hpf, by omega, hpc, hpp, by rw [B_mk', o]; exact o3, hb1, hb7, hm, hs1⟩, by omega⟩
      · rw [o] at o3 hb7
        exact ⟨⟨i + 1, other last, p, b0, mk (putS p).1, by omega, rfl, hew16, hpf, by omega, hpc, hpp, by rw [B_mk', o]; exact o3, hb1, hb7, hs0, hm⟩, by omega⟩
    · refine new_i fun r w7 hbr he7 hrr _ => ?_
      have hb7x := hb76.ext he7
      refine held2 (by rw [add_mk, hb7x.cell]; rfl) (by rw [add_mk, hb7x.cell]; rfl) ?_
      refine callW_of (choose_calls w7 b0 b1 (by omega) (by omega)) ?_
      rintro _ wx ⟨x14, rfl, hp14, hex, hf14⟩
      rw [hcho]
      refine ⟨(last, sT q x14, 0, ()), rfl, ?_⟩
      dsimp only
      have hbr := hbr.ext hex
      have hex : Ext w6 wx := he7.trans hex
      have hrr : w6.heap.size ≤ r := by omega
      refine refill (vs := sV q x14) hbr rfl (sV_one _ _) rfl ?_
      intro w9 hb15 hx9 hk9 hz9
      have he9 : Ext w6 w9 := hx9 w6 hex hrr
      have hb1 := hb16.ext he9
      have hb7 := hb76.ext he9
      refine splitW_f (by rfl) (splitW_f (by simp) ?_)
      refine box0 (q.gen : Int) hb15 (by rfl) (box0 (q.gen : Int) hb1 (by rfl) (splitW_f (by simp) ?_))
      refine boxF 3 (q.root : Int) hb15 (by rfl) (boxF 3 (q.root : Int) hb1 (by rfl) (splitW_f (by simp) ?_))
      refine boxA (ls := sLs) (sT q x) hb1 rfl ?_
      refine boxedS (s := q) (x := x) rfl fun r21 w10 hb21 he10 hr21 => ?_
      refine draw_i fun w11 he11 hz11 _ => ?_
      have he911 := he10.trans he11
      have hb21 := hb21.ext he11
      have hb1 := hb1.ext he911
      have hb7 := hb7.ext he911
      have hz9' := he9.size
      have he11 : Ext w6 w11 := he9.trans he911
      have hs11 : Sli (numE .u32) w11 a1 n1 roots := hs6.ext he11
      refine box0 (q.gen : Int) hb1 (by rfl) (guard_i ⟨by omega, by omega⟩ ?_)
      obtain ⟨a, ha, hsp, hcc⟩ := hs6.2.2 (by omega)
      refine ⟨a, ha, ?_⟩
      have h6 : w6.cell? (a.add (Int.toNat (i : Int) * 1)) = some (.int .u32 ((roots.getD i 0 : Nat) : Int)) := by
        rw [Int.toNat_natCast, Nat.mul_one]
        refine hcc i _ ?_
        rw [numE_flat, List.getElem?_map, List.getD_eq_getElem?_getD, List.getElem?_eq_getElem (by omega)]
        rfl
      have hcell := he11.cell h6
      have hbl := World.block_lt_of_cell? w6 _ h6
      refine ld_i (l := .int .u32) (x := ((roots.getD i 0 : Nat) : Int)) hcell ?_
      have hgw : IntKind.wrap .u64 ((q.gen : Int) + 1) = ((q.gen + 1 : Nat) : Int) := by rw [show (q.gen : Int) + 1 = ((q.gen + 1 : Nat) : Int) by omega, wrap_u64_nat (by omega)]
      rw [hgw]
      refine stW_blk hb21 (by show 0 < 5; omega) ?_
      have hg12 := set_grown w11 r21 0 (.int .u64 ((q.gen + 1 : Nat) : Int))
      have hb21 := hb21.set 0 (.int .u64 ((q.gen + 1 : Nat) : Int))
      refine held1 (hg12.cell hcell (fun e => by injection e with e; omega)) ?_
      rw [add_mk]
      refine stW_blk hb21 (by show 0 + 3 < 5; omega) ?_
      have hg13 := set_grown (w11.setCell ⟨r21, 0, none⟩ (.int .u64 ((q.gen + 1 : Nat) : Int))) r21 (0 + 3) (.int .u32 ((roots.getD i 0 : Nat) : Int))
      have hb21 : Blk _ r21 (sV ⟨q.gen + 1, q.size, q.blocks, roots.getD i 0, q.pages⟩ x) 28 := hb21.set (0 + 3) (.int .u32 ((roots.getD i 0 : Nat) : Int))
      have hg1213 := grownBy_tr hg12 hg13 (fun j hj => .inl hj)
      generalize hw13 : (w11.setCell ⟨r21, 0, none⟩ (.int .u64 ((q.gen + 1 : Nat) : Int))).setCell ⟨r21, 0 + 3, none⟩ (.int .u32 ((roots.getD i 0 : Nat) : Int)) = w13 at hb21 hg1213 ⊢
      clear hg12 hg13 hw13
      have he13 : Ext w6 w13 := he11.grown hg1213 (fun j hj => by injection hj with hj; omega)
      have hb1 := hb16.ext he13
      have hb7 := hb76.ext he13
      generalize hpd : (⟨q.gen + 1, q.size, q.blocks, roots.getD i 0, q.pages⟩ : Sup) = p at hb21
      have hpf : p.Fits := by rw [← hpd]; exact ⟨by dsimp only; omega, hqf.size, hqf.blocks, hroot, hqf.pages⟩
      have hpp : p.pages = s.pages := by rw [← hpd]; exact hqp
      have hpg : p.gen = q.gen + 1 := by rw [← hpd]
      have hew13 : Ext w w13 := hew.trans he13
      refine boxA (ls := sLs) (sT p x) hb21 rfl ?_
      refine callW_of (sput_calls hpf (by rw [hpp]; exact hp.ext hew13)) ?_
      rintro _ w14 ⟨rfl, he14⟩
      refine ⟨(mk (putS p).1, (putS p).2, ()), rfl, ?_⟩
      dsimp only
      have hew14 : Ext w w14 := hew13.trans he14
      have hb1 := hb1.ext he14
      have hb7 := hb7.ext he14
      have hb21 := hb21.ext he14
      have hi1 : IntKind.wrap .i64 ((i : Int) + 1) = ((i + 1 : Nat) : Int) := by rw [wrap_i64 (by omega) (by omega)]; omega
      rw [hi1]
      refine splitW_i (fun _ => ⟨⟨i + 1, last, q, b0, b1, by omega, rfl, hew14, hqf, by omega, hqc, hqp, hturn, hb1, hb7, hs0, hs1⟩, by omega⟩) (fun hz => ?_)
      have hpc := putS_ok (bne_eq_false_iff_eq.1 hz)
      obtain ⟨o1, o2, o3⟩ := hturn.step (p := p) hqf hqc (by omega)
      refine callW_of (other_calls w14 last) ?_
      rintro _ w14 ⟨rfl, hw⟩
      subst hw
      refine ⟨_, rfl, ?_⟩
      have ho1 : IntKind.wrap .i64 (1 - last) = other last := by rw [o1, wrap_i64 (by omega) (by omega)]
      rw [ho1]
      have hb21lt := hb21.lt
      refine splitW_f (by simp) (guard_i ⟨by omega, by omega⟩ (ptr_i ?_))
      rw [add_mk, Nat.zero_add, Nat.mul_one]
      refine stW_blk hb7 (by show (other last).toNat < 2; omega) ?_
      have hg15 := set_grown w14 r7 (other last).toNat (.string (mk (putS p).1))
      have hb7 := hb7.set (other last).toNat (.string (mk (putS p).1))
      have hb1 := hb1.grown hg15 (by simp; omega)
      have hb21 := hb21.grown hg15 (by simp; omega)
      have hew15 : Ext w _ := hew14.grown hg15 (fun j hj => by injection hj with hj; omega)
      refine boxA (ls := sLs) (sT p x) hb21 rfl (refill (vs := sV p x) hb1 rfl (sV_one _ _) rfl ?_)
      intro w16 hb1 hx16 hk16 hz16
      have hew16 := hx16 w hew15 (by omega)
      have hb7 : Blk w16 r7 _ _ := (hk16 r7 (by omega)).trans hb7
      have hm : (mk (putS p).1).size ≤ 4096 := by rw [mk_size']; exact putS_size
      rcases o2 with o | o
      · rw [o] at o3 hb7
        exact ⟨⟨i + 1, other last, p, mk (putS p).1, b1, by omega, rfl, hew16, hpf, by omega, hpc, hpp, by rw [B_mk', o]; exact o3, hb1, hb7, hm, hs1⟩, by omega⟩
      · rw [o] at o3 hb7
        exact ⟨⟨i + 1, other last, p, b0, mk (putS p).1, by omega, rfl, hew16, hpf, by omega, hpc, hpp, by rw [B_mk', o]; exact o3, hb1, hb7, hs0, hm⟩, by omega⟩
  · refine splitW_f (decide_eq_false (by omega)) ?_
    refine draw_i fun w6 he6 _ _ => ?_
    have hb16 := hb15.ext he6
    have hb76 := hb75.ext he6
    have hew := hew5.trans he6
    have h7lt := hb76.lt
    refine guard_i ⟨by omega, by omega⟩ (ptr_i (boxF 0 b0 hb76 (by rfl) (guard_i ⟨by omega, by omega⟩ (ptr_i (boxF 1 b1 hb76 (by rfl) ?_)))))
    refine ⟨?_, ?_⟩
    · refine callW_of (choose_calls w6 b0 b1 (by omega) (by omega)) ?_
      rintro _ w7 ⟨x14, rfl, hp14, he7, hf14⟩
      rw [hcho] at hp14 ⊢
      refine ⟨(last, sT q x14, 0, ()), rfl, ?_⟩
      dsimp only at hp14 ⊢
      refine new_i fun r wx hbr hex0 hrr0 _ => ?_
      have hex : Ext w6 wx := he7.trans hex0
      have hrr : w6.heap.size ≤ r := by have := he7.size; omega
      have hb7x := hb76.ext hex
      refine held2 (by rw [add_mk, hb7x.cell]; rfl) (by rw [add_mk, hb7x.cell]; rfl) ?_
      have hpk : ∀ w9, wx.grownBy w9 (some r) → Pg w9 x14 q.pages := fun w9 hg => hp14.old (hp14.ext hex0) hg (by omega)
      refine refill (vs := sV q x14) hbr rfl (sV_one _ _) rfl ?_
      intro w9 hb15 hx9 hk9 hz9
      have he9 : Ext w6 w9 := hx9 w6 hex hrr
      have hew9 := hew.trans he9
      have hb1 := hb16.ext he9
      have hpx : Pg w9 x14 q.pages := hpk w9 (grown_of_set (hew.trans hex) hew9 hk9 hz9)
      refine splitW_t (by rfl) (splitW_t (by simp) ?_)
      refine boxA (ls := sLs) (sT q x14) hb15 rfl (boxA (ls := sLs) (sT q x) hb1 rfl ?_)
      refine callW_of (ssame_calls hpx (by rw [hqp]; exact hp.ext hew9)) ?_
      rintro _ w10 ⟨rfl, he10⟩
      exact ⟨_, rfl, by simp, hew9.trans he10⟩
    · refine new_i fun r w7 hbr he7 hrr _ => ?_
      have hbrlt := hbr.lt
      have hb7x := hb76.ext he7
      refine held2 (by rw [add_mk, hb7x.cell]; rfl) (by rw [add_mk, hb7x.cell]; rfl) ?_
      refine callW_of (choose_calls w7 b0 b1 (by omega) (by omega)) ?_
      rintro _ wx ⟨x14, rfl, hp14, hex, hf14⟩
      rw [hcho] at hp14 ⊢
      refine ⟨(last, sT q x14, 0, ()), rfl, ?_⟩
      dsimp only at hp14 ⊢
      have hbr := hbr.ext hex
      have hex : Ext w6 wx := he7.trans hex
      have hrr : w6.heap.size ≤ r := by omega
      have hpk : ∀ w9, wx.grownBy w9 (some r) → Pg w9 x14 q.pages := fun w9 hg => hp14.grown hg (fun c hc e => by injection e with e; have := hf14 c hc; omega)
      refine refill (vs := sV q x14) hbr rfl (sV_one _ _) rfl ?_
      intro w9 hb15 hx9 hk9 hz9
      have he9 : Ext w6 w9 := hx9 w6 hex hrr
      have hew9 := hew.trans he9
      have hb1 := hb16.ext he9
      have hpx : Pg w9 x14 q.pages := hpk w9 (grown_of_set (hew.trans hex) hew9 hk9 hz9)
      refine splitW_t (by rfl) (splitW_t (by simp) ?_)
      refine boxA (ls := sLs) (sT q x14) hb15 rfl (boxA (ls := sLs) (sT q x) hb1 rfl ?_)
      refine callW_of (ssame_calls hpx (by rw [hqp]; exact hp.ext hew9)) ?_
      rintro _ w10 ⟨rfl, he10⟩
      exact ⟨_, rfl, by simp, hew9.trans he10⟩
end Go.Proofs.Ytiiemgndnpflbaa.V
