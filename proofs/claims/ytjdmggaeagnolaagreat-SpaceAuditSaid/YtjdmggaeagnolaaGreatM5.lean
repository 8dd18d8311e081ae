/- Texts of mine, merged (wip/tool/mergep.py): KOpen, Great, Great2, BlobP, Great3, KAt2, KMark, KGreat, DecAct, Run, Inv, DoC, GoodE, L, LA. -/
import Derived.Test.YtjdmggaeagnolaaGreatM4
import Derived.Test.YtjdmggaeagnolaaGreatM2
/- Contracts of the package space: Open, Root. -/
set_option linter.unusedVariables false
set_option linter.unusedSimpArgs false
namespace Go.Proofs.YtjdmggaeagnolaaGreat.V
open Go Go.Proofs Go.RowKit Crc
def opnC (d : Dev) : Int × Sup × Int := chooseS (B (d.read 0).1) (B (d.read 1).1)
def pgK (d : Dev) (p : Nat) : Fra × Int := kindR (B (d.read (p : Int)).1) 2
def opnL (d : Dev) : List ByteArray := (opnC d).2.1.pages.map fun p => (pgK d p).1.2.2
def opnOK (d : Dev) : Prop := (opnC d).2.2 = 0 ∧ (opnC d).2.1.size = d.size ∧ (opnC d).2.1.blocks = d.blocks ∧ (∀ p ∈ (opnC d).2.1.pages, (pgK d p).2 = 0 ∧ (pgK d p).1.2.1 = (opnC d).2.1.gen) ∧ loadE d.size d.blocks (opnL d) = 0
def openS (d : Dev) : Spa := ⟨d, (opnC d).2.1, (opnC d).1, loadL (opnL d), loadL (opnL d), none⟩
theorem choose_ok {a b : List UInt8} (h : (chooseS a b).2.2 = 0) : chk (chooseS a b).2.1 = 0 := by
  have key : ∀ c, (getS c).2 = 0 → chk (getS c).1 = 0 := by
    intro c hc
    have h2 := (getS_ok hc).1
    unfold putS at h2
    split at h2
    · rename_i hk
      exact hk
    · rename_i hk
      injection h2 with _ h3
  unfold chooseS at h ⊢
  split at h
  · cases h
  · rename_i h1
    rw [if_neg h1]
    split at h
    · rename_i h2
      rw [if_pos h2]
      refine key b ?_
      rcases h2 with h2 | h2
      · exact Decidable.not_not.1 (fun hb => h1 ⟨h2, hb⟩)
      · exact h2.1
    · rename_i h2
      rw [if_neg h2]
      exact key a (Decidable.not_not.1 (fun ha => h2 (.inl ha)))
theorem choose_fits (a b : List UInt8) : (chooseS a b).2.1.Fits := by
  unfold chooseS
  split
  · exact sup0_fits
  · split
    · exact getS_fits b
    · exact getS_fits a
theorem read_size {d : Dev} (h : d.Ok) (k : Int) : (d.read k).1.size ≤ 4096 := by
  by_cases hk : 0 ≤ k ∧ k < d.blocks
  · have h1 := (h.read hk.1 hk.2).2
    obtain ⟨g1, g2, g3, g4, g5⟩ := geo_room h.geo
    omega
  · unfold Dev.read
    rw [if_pos hk]
    show (ByteArray.empty).size ≤ 4096
    decide
theorem loadE_facts {size blocks : Int} {ps : List ByteArray} (h : loadE size blocks ps = 0) : geoOK size blocks = true ∧ fitsP blocks.toNat (perOf size) ps := by
  unfold loadE at h
  split at h
  · cases h
  · rename_i h1
    split at h
    · cases h
    · rename_i h2
      exact ⟨by cases hh : geoOK size blocks with
        | true => rfl
        | false => exact absurd hh h1, Decidable.not_not.1 h2⟩
theorem geoEq_iff {a b : Int × Int} : geoEq a b = true ↔ a.1 = b.1 ∧ a.2 = b.2 := by simp [geoEq]
theorem open_calls {w : World} {db : Nat} {d : Dev} {Fd : Nat → Prop} (h : DevAt w db d Fd) :
    Calls Tryz.prog 12 #[.pointer (some ⟨db, 0, none⟩)] w (Ret fun v w' => Ext w w' ∧ ((¬ opnOK d ∧ v = .tuple #[.pointer none, .int .i64 10]) ∨ (opnOK d ∧ ∃ b F, v = .tuple #[.pointer (some ⟨b, 0, none⟩), .int .i64 0] ∧ SpAt w' b db (openS d) F ∧ w.heap.size ≤ b ∧ ∀ k, F k → Fd k ∨ w.heap.size ≤ k))) := by
  have hgeo := h.ok.geo
  have hFlt := h.lt
  have hs0 := read_size h.ok 0
  have hs1 := read_size h.ok 1
  apply calls12
  unfold S12
  refine splitW_f (by rfl) ?_
  refine callW_of (read_calls h 0) ?_
  rintro _ w1 ⟨rfl, he1⟩
  refine ⟨((d.read 0).1, (d.read 0).2, ()), rfl, ?_⟩
  refine callW_of (read_calls (h.ext he1) 1) ?_
  rintro _ w2 ⟨rfl, he2⟩
  refine ⟨((d.read 1).1, (d.read 1).2, ()), rfl, ?_⟩
  dsimp only
  refine callW_of (choose_calls w2 (d.read 0).1 (d.read 1).1 (by omega) (by omega)) ?_
  rintro _ w3 ⟨x, rfl, hp3, he3, hx3⟩
  have eC : chooseS (B (d.read 0).1) (B (d.read 1).1) = opnC d := rfl
  rw [eC] at hp3 ⊢
  have hff : (opnC d).2.1.Fits := choose_fits _ _
  refine ⟨((opnC d).1, sT (opnC d).2.1 x, (opnC d).2.2, ()), rfl, ?_⟩
  have he03 := (he1.trans he2).trans he3
  refine boxedS (s := (opnC d).2.1) (x := x) (by rfl) (fun r4 w4 hb4 he4 hr4 => ?_)
  have he04 := he03.trans he4
  refine draw_i fun w5 he5 _ _ => ?_
  have hb5 := hb4.ext he5
  have he05 := he04.trans he5
  have hp5 := (hp3.ext he4).ext he5
  have bad : ∀ {w' : World}, ¬ opnOK d → Ext w w' → (Ext w w' ∧ ((¬ opnOK d ∧ Value.tuple #[.pointer none, .int .i64 (10 : Int)] = .tuple #[.pointer none, .int .i64 10]) ∨ (opnOK d ∧ ∃ b F, Value.tuple #[.pointer none, .int .i64 (10 : Int)] = .tuple #[.pointer (some ⟨b, 0, none⟩), .int .i64 0] ∧ SpAt w' b db (openS d) F ∧ w.heap.size ≤ b ∧ ∀ k, F k → Fd k ∨ w.heap.size ≤ k))) := fun hn he => ⟨he, .inl ⟨hn, rfl⟩⟩
  refine splitW_i (fun hq => ?_) (fun hq => ?_)
  · have hq := bne_iff_ne.1 hq
    exact bad (fun hh => hq hh.1) he05
  have hq0 := bne_eq_false_iff_eq.1 hq
  have hq0 : (opnC d).2.2 = 0 := hq0
  have hchk := choose_ok (a := B (d.read 0).1) (b := B (d.read 1).1) hq0
  obtain ⟨⟨c1, c2, c3, c4⟩, c5, c6⟩ := chk_ok hchk
  have c4 : ((opnC d).2.1.pages.length : Int) = pagesOf (opnC d).2.1.size (opnC d).2.1.blocks := c4
  have hple := pagesOf_le (size := (opnC d).2.1.size) (blocks := (opnC d).2.1.blocks)
  refine boxAE (ls := [.int .i64, .int .i64]) 1 ((opnC d).2.1.size, (opnC d).2.1.blocks, ()) hb5 (by rfl) (by rfl) ?_
  dsimp only
  refine callW_of (geo_calls (h.ext he05)) ?_
  rintro _ w6 ⟨rfl, he6⟩
  refine ⟨(d.size, d.blocks, ()), rfl, ?_⟩
  have hb6 := hb5.ext he6
  have he06 := he05.trans he6
  refine ⟨fun l hl q hq => ?_, ?_⟩
  · simp only [List.mem_singleton] at hl
    subst hl
    simp only [List.mem_cons, List.not_mem_nil, or_false] at hq
    rcases hq with rfl | rfl
    · exact boxC hb6 (o := 1) (by rfl) (by rfl)
    · exact boxC hb6 (o := 2) (by rfl) (by rfl)
  dsimp only
  refine ⟨_, fun w' => neq_geoS w' ((opnC d).2.1.size, (opnC d).2.1.blocks) (d.size, d.blocks) _ _, ?_⟩
  refine splitW_i (fun hq => ?_) (fun hq => ?_)
  · refine bad (fun hh => ?_) he06
    have : geoEq ((opnC d).2.1.size, (opnC d).2.1.blocks) (d.size, d.blocks) = true := geoEq_iff.2 ⟨hh.2.1, hh.2.2.1⟩
    rw [this] at hq
    cases hq
  have hq1 : (opnC d).2.1.size = d.size ∧ (opnC d).2.1.blocks = d.blocks := by
    have : geoEq ((opnC d).2.1.size, (opnC d).2.1.blocks) (d.size, d.blocks) = true := by simpa using hq
    exact geoEq_iff.1 this
  refine boxF (l := .slc) 4 x hb6 (by rfl) ?_
  have hp6 := hp5.ext he6
  have hpl := hp6.len
  have hge : ∀ j, w.heap.size ≤ j → ¬ Fd j := fun j hj hf => by have := hFlt j hf; omega
  have hs06 := he06.size
  refine loopW_i (fun y' w' => ∃ (i : Nat) (A : Option Addr) (c : Nat), i ≤ x.2.1 ∧ y' = ((A, i, c), (i : Int), ()) ∧ Ext w6 w' ∧ Owni strE 9 w' w6.heap.size A i c ((opnL d).take i) ∧ (∀ p ∈ (opnC d).2.1.pages.take i, (pgK d p).2 = 0 ∧ (pgK d p).1.2.1 = (opnC d).2.1.gen)) (fun y' => (x.2.1 - y'.2.1).toNat)
    ⟨0, none, 0, by omega, rfl, Ext.refl _, Owni.nil _ _ _, by simp⟩ ?_
  rintro _ w7 ⟨i, A, c, hi, rfl, he7, ho7, hall⟩
  dsimp only
  have he07 := he06.trans he7
  by_cases hlt : i < x.2.1
  · refine splitW_t (decide_eq_true (by omega)) ?_
    refine idx_num (hp6.sl.ext he7) (by omega) (by omega) ?_
    rw [Int.toNat_natCast]
    have hil : i < (opnC d).2.1.pages.length := by omega
    have hpi : (opnC d).2.1.pages[i]? = some ((opnC d).2.1.pages.getD i 0) := by rw [List.getD_eq_getElem?_getD, List.getElem?_eq_getElem hil]; rfl
    have hpm : (opnC d).2.1.pages.getD i 0 ∈ (opnC d).2.1.pages := by
      obtain ⟨_, e⟩ := List.getElem?_eq_some_iff.1 hpi
      rw [← e]; exact List.getElem_mem _
    have h32 : (opnC d).2.1.pages.getD i 0 < 4294967296 := hff.at_ i
    rw [wrap_i64 (by omega) (by omega)]
    have hrs := read_size h.ok ((opnC d).2.1.pages.getD i 0 : Nat)
    refine callW_of (read_calls (h.ext he07) ((opnC d).2.1.pages.getD i 0 : Nat)) ?_
    rintro _ w8 ⟨rfl, he8⟩
    refine ⟨((d.read ((opnC d).2.1.pages.getD i 0 : Nat)).1, (d.read ((opnC d).2.1.pages.getD i 0 : Nat)).2, ()), rfl, ?_⟩
    dsimp only
    refine callW_of (fkind_calls w8 (d.read ((opnC d).2.1.pages.getD i 0 : Nat)).1 (by omega) 2) ?_
    rintro _ w9 ⟨rfl, he9⟩
    have eK : kindR (B (d.read ((opnC d).2.1.pages.getD i 0 : Nat)).1) 2 = pgK d ((opnC d).2.1.pages.getD i 0) := rfl
    rw [eK]
    refine ⟨(fT (pgK d ((opnC d).2.1.pages.getD i 0)).1, (pgK d ((opnC d).2.1.pages.getD i 0)).2, ()), rfl, ?_⟩
    refine boxed (f := (pgK d ((opnC d).2.1.pages.getD i 0)).1) (fun r15 w10 hb10 he10 hr10 => ?_)
    have he710 := (he8.trans he9).trans he10
    have he010 := he07.trans he710
    have hb4' := hb6.ext (he7.trans he710)
    refine splitW_i (fun hz => ?_) (fun hz => ?_)
    · have hz := bne_iff_ne.1 hz
      exact bad (fun hh => hz (hh.2.2.2.1 _ hpm).1) he010
    have hz0 := bne_eq_false_iff_eq.1 hz
    refine boxF (l := .int .u64) 1 (((pgK d ((opnC d).2.1.pages.getD i 0)).1.2.1 : Nat) : Int) hb10 (by rfl) ?_
    refine box0 (((opnC d).2.1.gen : Nat) : Int) hb4' (by rfl) ?_
    refine splitW_i (fun hz => ?_) (fun hz => ?_)
    · have hz := bne_iff_ne.1 hz
      exact bad (fun hh => hz (by rw [(hh.2.2.2.1 _ hpm).2])) he010
    have hz1 := bne_eq_false_iff_eq.1 hz
    refine boxF (l := .str) 2 (pgK d ((opnC d).2.1.pages.getD i 0)).1.2.2 hb10 (by rfl) ?_
    have ho10 := ho7.ext he710
    have hs710 := he710.size
    have hs67 := he7.size
    refine append_newi (E := strE) (ys := [(pgK d ((opnC d).2.1.pages.getD i 0)).1.2.2]) (by rfl) rfl elem_strK' ho10 (by omega) (by omega) (by omega) ?_
    intro A' c' w11 ho11 hg11
    have hAr : ∀ j, orow A = some j → w6.heap.size ≤ j := fun j hj => ho10.row j hj
    refine ⟨⟨i + 1, A', c', by omega, by rw [wrap_i64 (by omega) (by omega)]; rfl, (he7.trans he710).grown hg11.grown (fun j hj => hAr j hj), ?_, ?_⟩, by rw [wrap_i64 (by omega) (by omega)]; omega⟩
    · have eL : (opnL d)[i]? = some (pgK d ((opnC d).2.1.pages.getD i 0)).1.2.2 := by unfold opnL; rw [List.getElem?_map, hpi]; rfl
      rw [List.take_add_one, eL]
      exact ho11
    · intro p hpm'
      rw [List.take_add_one, hpi] at hpm'
      simp only [Option.toList_some, List.mem_append, List.mem_singleton] at hpm'
      rcases hpm' with e | rfl
      · exact hall p e
      · exact ⟨hz0, by omega⟩
  obtain rfl : i = x.2.1 := by omega
  refine splitW_f (decide_eq_false (by omega)) ?_
  rw [List.take_of_length_le (by omega)] at hall
  have hLl : (opnL d).length = x.2.1 := by unfold opnL; rw [List.length_map]; exact hpl
  rw [List.take_of_length_le (by omega)] at ho7
  refine callW_of (geo_calls (h.ext he07)) ?_
  rintro _ w8 ⟨rfl, he8⟩
  refine ⟨(d.size, d.blocks, ()), rfl, ?_⟩
  dsimp only
  refine callW_of (load_calls (size := d.size) (blocks := d.blocks) (c := c) (ho7.ext he8).sl) ?_
  rintro _ w9 ⟨xo, rfl, hld, he9⟩
  refine ⟨(xo, loadE d.size d.blocks (opnL d), ()), rfl, ?_⟩
  dsimp only
  have he79 := he8.trans he9
  have he09 := he07.trans he79
  refine splitW_i (fun hz => ?_) (fun hz => ?_)
  · have hz := bne_iff_ne.1 hz
    exact bad (fun hh => hz hh.2.2.2.2) he09
  have hz := bne_eq_false_iff_eq.1 hz
  rw [if_pos hz] at hld
  obtain ⟨cb, cr, rfl, hc9, hcb, hcr⟩ := hld
  have hOK : opnOK d := ⟨hq0, hq1.1, hq1.2, hall, hz⟩
  refine draw_i fun w10 he10 _ _ => ?_
  have he69 := he7.trans he79
  have hb10 := hb6.ext (he69.trans he10)
  refine boxA (ls := sLs) (sT (opnC d).2.1 x) hb10 rfl ?_
  have hc10 := hc9.ext he10
  refine callW_of (cntclone_calls hc10) ?_
  rintro _ w11 ⟨⟨b2, r2, q2, rfl, hc11, hb2, hr2⟩, he11⟩
  refine ⟨some ⟨b2, 0, none⟩, rfl, ?_⟩
  have hb11 := hb10.ext he11
  refine ⟨fun l hl q hq => ?_, ?_⟩
  · simp only [List.mem_singleton] at hl
    subst hl
    simp only [List.mem_cons, List.not_mem_nil, or_false] at hq
    rcases hq with rfl | rfl | rfl | rfl | rfl
    · exact boxC hb11 (o := 0) (by rfl) (by rfl)
    · exact boxC hb11 (o := 1) (by rfl) (by rfl)
    · exact boxC hb11 (o := 2) (by rfl) (by rfl)
    · exact boxC hb11 (o := 3) (by rfl) (by rfl)
    · exact boxC hb11 (o := 4) (by rfl) (by rfl)
  refine new_i fun r25 w12 hb12 he12 hr12 hz12 => ?_
  have he011 := (he09.trans he10).trans he11
  have he012 := he011.trans he12
  have hs3 := he03.size
  have hs04 := he04.size
  have hs05 := he05.size
  have hs79 := he79.size
  have hs10 := he10.size
  have hs11 := he11.size
  have hs8 := he8.size
  have hs7 := he7.size
  have hs23 := he3.size
  have hs02 := (he1.trans he2).size
  have hne := hc9.ne
  have hne2 := hc11.ne
  have hcbl := hc9.head.lt
  have hcrl := hc9.row.lt
  have hcb2 := hc11.head.lt
  have hcr2 := hc11.row.lt
  have hA2 : ∀ k, k ∈ rowL x → w.heap.size ≤ k ∧ k < w8.heap.size := by
    intro k hk
    unfold rowL at hk
    cases hxa : x.1 with
    | none => rw [hxa] at hk; simp at hk
    | some a =>
      rw [hxa] at hk
      simp only [Option.map_some, Option.toList_some, List.mem_singleton] at hk
      subst hk
      have h1 := hx3 a hxa
      by_cases hx0 : 0 < x.2.1
      · obtain ⟨a', e1, e2, e3⟩ := hp3.sl.2.2 hx0
        rw [hxa] at e1
        injection e1 with e1
        subst e1
        have hlen3 := hp3.sl.len
        have hm : ((opnC d).2.1.pages)[0]? = some ((opnC d).2.1.pages.getD 0 0) := by rw [List.getD_eq_getElem?_getD, List.getElem?_eq_getElem (by omega)]; rfl
        obtain ⟨a2, g1, g2, g3⟩ := hp3.sl.at_ hm
        rw [hxa] at g1
        injection g1 with g1
        subst g1
        have hcell := g3.1
        have hlt := World.block_lt_of_cell? w3 _ hcell
        have hab : ((a.add (0 * 1)).add 0).block = a.block := by unfold Addr.add; split <;> rfl
        have : a.block < w3.heap.size := by
          have h5 := hlt
          revert h5
          unfold Addr.add
          split <;> intro h5 <;> exact h5
        have hs36 := (he4.trans (he5.trans he6)).size
        omega
      · exfalso
        have h0 : (opnC d).2.1.pages.length = 0 := by omega
        have := fmtN_le (size := d.size) (N := d.blocks.toNat) (by rw [Int.toNat_of_nonneg (by have := geo_room hgeo; omega)]; exact hgeo)
        have hf := (loadE_facts hz).2
        have hf := fitsP_len hf
        rw [hLl] at hf
        unfold fmtN at this
        omega
  have hrn : (rowL x).Nodup := by unfold rowL; cases x.1 <;> simp
  have hdimN := geo_dims hgeo
  refine ⟨he012, .inr ⟨hOK, r25, fun k => Fd k ∨ k ∈ spOwn r25 cb cr b2 r2 x none, rfl, ⟨Fd, x, cb, cr, b2, r2, none, ⟨⟨_, hb12⟩, h.ext he012, hp6.ext (((he69.trans he10).trans he11).trans he12), ⟨[], ?_⟩, ⟨q2, ?_⟩, trivial, fun _ => Iff.rfl, ?_, ?_, ?_, ⟨hq1.1, hq1.2, hff, ?_, ?_, fun l hl => by cases hl⟩⟩⟩, by omega, ?_⟩⟩
  · show Cnt w12 cb cr (opnC d).2.1.size [] (loadL (opnL d))
    rw [hq1.1]
    exact (hc10.ext he11).ext he12
  · show Cnt w12 b2 r2 (opnC d).2.1.size q2 (loadL (opnL d))
    rw [hq1.1]
    exact hc11.ext he12
  · simp only [spOwn, mkBl, List.append_nil, List.nodup_cons, List.mem_cons, not_or]
    refine ⟨⟨by omega, by omega, by omega, by omega, fun hk => by have := hA2 _ hk; omega⟩, ⟨hne, by omega, by omega, fun hk => by have := hA2 _ hk; omega⟩, ⟨by omega, by omega, fun hk => by have := hA2 _ hk; omega⟩, ⟨hne2, fun hk => by have := hA2 _ hk; omega⟩, fun hk => by have := hA2 _ hk; omega, hrn⟩
  · intro k hk
    refine hge k ?_
    simp only [spOwn, mkBl, List.append_nil, List.mem_cons] at hk
    have h08 : w.heap.size ≤ w8.heap.size := (he07.trans he8).size
    rcases hk with rfl | rfl | rfl | rfl | rfl | hk
    · omega
    · omega
    · omega
    · omega
    · omega
    · exact (hA2 k hk).1
  · intro k hk
    have := hA2 k hk
    have := he9.size
    omega
  · obtain ⟨f1, f2⟩ := loadE_facts hz
    obtain ⟨h8, _⟩ := geo8 hgeo
    show (loadL (opnL d)).length = ((opnC d).2.1.blocks).toNat
    rw [loadL_length (show 1 ≤ perOf d.size by have := (perOf_spec h8).1; omega) f2, hq1.2]
  · obtain ⟨f1, f2⟩ := loadE_facts hz
    obtain ⟨h8, _⟩ := geo8 hgeo
    show (loadL (opnL d)).length = ((opnC d).2.1.blocks).toNat
    rw [loadL_length (show 1 ≤ perOf d.size by have := (perOf_spec h8).1; omega) f2, hq1.2]
  · rintro k (hk | hk)
    · exact .inl hk
    · right
      simp only [spOwn, mkBl, List.append_nil, List.mem_cons] at hk
      have h08 : w.heap.size ≤ w8.heap.size := (he07.trans he8).size
      rcases hk with rfl | rfl | rfl | rfl | rfl | hk
      · omega
      · omega
      · omega
      · omega
      · omega
      · exact (hA2 k hk).1
theorem root_calls {w : World} {b db : Nat} {S : Spa} {F Fd : Nat → Prop} {x : SLC} {hb hr nb nr : Nat} {m : MkL} (h : SpM w b db S F Fd x hb hr nb nr m) :
    Calls Tryz.prog 26 #[.pointer (some ⟨b, 0, none⟩)] w (Ret fun v w' => v = .int .u32 (S.sup.root : Int) ∧ w' = w) := by
  apply calls26
  unfold S26
  obtain ⟨t, hbx⟩ := h.box
  exact splitW_f (by rfl) (ptr_i (boxE (l := .int .u32) 4 (S.sup.root : Int) hbx (by rfl) (by rfl) ⟨rfl, rfl⟩))
end Go.Proofs.YtjdmggaeagnolaaGreat.V
/- Spaces that are well, with what was committed and marked: plain. -/
set_option linter.unusedVariables false
set_option linter.unusedSimpArgs false
namespace Go.Proofs.YtjdmggaeagnolaaGreat.V
open Go Go.Proofs Go.RowKit Crc
/-! ### Counts, put into pages and loaded again -/
theorem wB_le2 {c : Nat} {r : List UInt8} (hc : c < 65536) : wB (le 2 c ++ r) = c :: wB r := by
  unfold wB
  rw [List.length_append, le_length, show (2 + r.length) / 2 = r.length / 2 + 1 by omega, List.range_succ_eq_map, List.map_cons, List.map_map]
  rw [List.cons.injEq]
  refine ⟨?_, ?_⟩
  · rw [Nat.mul_zero, List.drop_zero, List.take_left' (le_length _ _), lev_le2 hc]
  · apply List.map_congr_left
    intro k _
    simp only [Function.comp]
    rw [show 2 * (k.succ) = (le 2 c).length + 2 * k by rw [le_length]; omega, ← List.drop_drop, List.drop_left]
theorem wB_flat : ∀ cs : List Nat, (∀ c ∈ cs, c < 65536) → wB (cs.flatMap (le 2)) = cs
  | [], _ => rfl
  | c :: r, h => by rw [List.flatMap_cons, wB_le2 (h c List.mem_cons_self), wB_flat r (fun x hx => h x (List.mem_cons_of_mem _ hx))]
theorem chunks_take (l : List Nat) (per : Nat) : ∀ k, (List.range k).flatMap (fun i => (l.drop (i * per)).take per) = l.take (k * per)
  | 0 => by simp
  | k + 1 => by
    rw [List.range_succ, List.flatMap_append, chunks_take l per k, Nat.succ_mul, List.take_add]
    simp
theorem loadL_pages {l : List Nat} {per : Nat} (hp : 1 ≤ per) (h : ∀ c ∈ l, c < 65536) : loadL (pagesL l per) = l := by
  unfold loadL pagesL
  rw [List.flatMap_map]
  have e : ((List.range (cutsN l.length per)).flatMap fun i => wB (B ⟨(pageB l per i).toArray⟩)) = (List.range (cutsN l.length per)).flatMap fun i => (l.drop (i * per)).take per := by
    congr 1
    funext i
    rw [B_mk]
    unfold pageB
    exact wB_flat _ (fun c hc => h c (List.mem_of_mem_drop (List.mem_of_mem_take hc)))
  rw [e, chunks_take, List.take_of_length_le]
  have := mt (cutsN_lt (n := l.length) (k := per) (i := cutsN l.length per) hp).2 (by omega)
  omega
theorem freeN_mono {S S' : Spa} (hN : S'.N = S.N) (h : ∀ n, S.isFree n = true → S'.isFree n = true) : S.freeN ≤ S'.freeN := by
  unfold Spa.freeN Spa.freeL
  rw [← List.countP_eq_length_filter, ← List.countP_eq_length_filter, hN]
  refine List.countP_mono_left (fun n _ hn => ?_)
  rw [Bool.and_eq_true] at hn ⊢
  exact ⟨hn.1, h n hn.2⟩
theorem nodup_sub : ∀ {a b : List Nat}, a.Nodup → (∀ x ∈ a, x ∈ b) → a.length ≤ b.length
  | [], b, _, _ => Nat.zero_le _
  | x :: r, b, hn, h => by
    obtain ⟨hx, hr⟩ := List.nodup_cons.1 hn
    have hb := h x List.mem_cons_self
    have := nodup_sub (a := r) (b := b.erase x) hr (fun y hy => by
      have hyx : y ≠ x := fun e => hx (e ▸ hy)
      exact (List.mem_erase_of_ne hyx).2 (h y (List.mem_cons_of_mem _ hy)))
    rw [List.length_erase_of_mem hb] at this
    have := List.length_pos_of_mem hb
    rw [List.length_cons]
    omega
/-! ### What a commit leaves on the device -/
theorem wrL_reads : ∀ (l : List (Nat × Fra)) (d : Dev), DevG d → (∀ p ∈ l, (p.1 : Int) < d.blocks ∧ ((B p.2.2.2).length : Int) ≤ roomOf d.size) → (l.map (·.1)).Nodup →
    ∀ p ∈ l, ((wrL d l).1.read (p.1 : Int)).1 = mkB (putB d.size.toNat p.2)
  | [], d, _, _, _, p, hp => by cases hp
  | kf :: r, d, h, hl, hnd, p, hp => by
    obtain ⟨h1, h2⟩ := hl kf List.mem_cons_self
    obtain ⟨g1, g2, g3⟩ := writeF_good h h1 h2
    obtain ⟨d1, d2, d3⟩ := writeF_dim d kf.1 kf.2
    have hr := fun p hp => hl p (List.mem_cons_of_mem kf hp)
    have hr' : ∀ p ∈ r, (p.1 : Int) < (writeF d kf.1 kf.2).1.blocks ∧ ((B p.2.2.2).length : Int) ≤ roomOf (writeF d kf.1 kf.2).1.size := fun p hp => by rw [d1, d2]; exact hr p hp
    obtain ⟨k1, k2, k3⟩ := wrL_good r _ g2 hr'
    rw [List.map_cons, List.nodup_cons] at hnd
    unfold wrL
    rw [if_neg (fun hh => hh g1)]
    rcases List.mem_cons.1 hp with rfl | hp
    · rw [k3 (p.1 : Int) (by rw [d2]; exact ⟨by omega, h1⟩) (fun q hq e => hnd.1 (List.mem_map.2 ⟨q, hq, by omega⟩)), g3 _ ⟨by omega, h1⟩, if_pos rfl]
    · have := wrL_reads r _ g2 hr' hnd.2 p hp
      rw [this, d1]
theorem pgFs_fst {gen : Nat} {ps : List Nat} {l : List ByteArray} (h : ps.length = l.length) : (pgFs gen ps l).map (·.1) = ps := by
  unfold pgFs
  rw [List.map_map]
  have : (fun p : Nat × ByteArray => p.1) = Prod.fst := rfl
  show (ps.zip l).map Prod.fst = ps
  rw [List.map_fst_zip (by omega)]
theorem commit_reads {d : Dev} (h : DevG d) {c : List Nat} {s : Sup} {slot : Int} (hchk : chk s = 0) (hsz : s.size = d.size) (hps : ∀ p ∈ s.pages, 2 ≤ p ∧ (p : Int) < d.blocks) (hnd : s.pages.Nodup) (hslot : slot = 0 ∨ slot = 1)
    (hlen : s.pages.length = cutsN c.length (perOf d.size)) :
    ((commitD d c s slot).1.read slot).1 = mkB (putS s).1 ∧ (∀ j : Int, 0 ≤ j → j < d.blocks → j ≠ slot → (∀ p ∈ s.pages, (p : Int) ≠ j) → ((commitD d c s slot).1.read j).1 = (d.read j).1) ∧
      ∀ i, i < s.pages.length → ((commitD d c s slot).1.read ((s.pages.getD i 0 : Nat) : Int)).1 = mkB (putB d.size.toNat ((2 : UInt8), s.gen, (pagesL c (perOf d.size)).getD i ByteArray.empty)) := by
  obtain ⟨z, N, e1, e2, e3, e4, e5, e6, e7, e8⟩ := h.ok.facts
  have hPl := pagesL_length c (perOf d.size)
  have hL : ∀ p ∈ pgFs s.gen s.pages (pagesL c (perOf d.size)), p.1 ∈ s.pages ∧ ((B p.2.2.2).length : Int) ≤ roomOf d.size := by
    intro p hp
    unfold pgFs at hp
    obtain ⟨q, hq, rfl⟩ := List.mem_map.1 hp
    have h1 := (List.of_mem_zip hq).1
    have h2 := (List.of_mem_zip hq).2
    refine ⟨h1, ?_⟩
    unfold pagesL at h2
    obtain ⟨i, _, hi⟩ := List.mem_map.1 h2
    show ((B q.2).length : Int) ≤ _
    rw [← hi, B_mk]
    have := pageB_len c (perOf d.size) i
    omega
  have hL' : ∀ p ∈ pgFs s.gen s.pages (pagesL c (perOf d.size)), (p.1 : Int) < d.blocks ∧ ((B p.2.2.2).length : Int) ≤ roomOf d.size := fun p hp => ⟨(hps _ (hL p hp).1).2, (hL p hp).2⟩
  obtain ⟨w1, w2, w3⟩ := wrL_good _ d h hL'
  have w4 := wrL_reads _ d h hL' (by rw [pgFs_fst (by omega)]; exact hnd)
  obtain ⟨dm1, dm2, dm3⟩ := wrL_dim (pgFs s.gen s.pages (pagesL c (perOf d.size))) d
  have hget := fun i (hi : i < s.pages.length) => pgFs_get (gen := s.gen) (ps := s.pages) (l := pagesL c (perOf d.size)) (by omega) (i := i) (by omega)
  obtain ⟨f1, f2, f3, f4⟩ := flush_good w2
  have fd := flush_dim (wrL d (pgFs s.gen s.pages (pagesL c (perOf d.size)))).1
  unfold commitD
  generalize (pgFs s.gen s.pages (pagesL c (perOf d.size))) = L at *
  generalize hr : (wrL d L) = r at *
  have hp0 : (putS s).2 = 0 := by rw [putS_good hchk]
  have hpl := (putS_length hchk).1
  have hs2 : ((((mkB (putS s).1).size : Nat)) : Int) = r.1.flush.1.size := by rw [mkB_size, hpl, fd.1, dm1, hsz]
  have hsl : 0 ≤ slot ∧ slot < r.1.flush.1.blocks := by rw [fd.2.1, dm2]; omega
  obtain ⟨q1, q2, q3⟩ := write_ok f2.ok hsl hs2 f2.fuse
  have hrw := fun (j : Int) (hj : 0 ≤ j ∧ j < r.1.flush.1.blocks) => read_write f2.ok hsl hs2 (by rw [f2.fuse]; decide) (j := j) hj
  have hw0 := (hrw slot hsl).1
  obtain ⟨y1, y2, y3, y4⟩ := flush_good (d := (r.1.flush.1.write slot (mkB (putS s).1)).1) ⟨q1, q2⟩
  rw [if_neg (fun hh => hh w1), if_neg (fun hh => hh f1), if_neg (fun hh => hh hp0), if_neg (fun hh => hh hw0)]
  refine ⟨?_, fun j hj hjb hjs hno => ?_, fun i hi => ?_⟩
  · rw [y4, (hrw slot hsl).2, if_pos rfl]
  · rw [y4 j, (hrw j (by rw [fd.2.1, dm2]; omega)).2, if_neg hjs, f4 j, w3 j ⟨hj, hjb⟩ (fun p hp => hno p.1 (hL p hp).1)]
  · have hg := hget i hi
    have hm := List.mem_of_getElem? hg
    have h2 := hps _ (hL _ hm).1
    dsimp only at h2
    rw [y4, (hrw _ (by rw [fd.2.1, dm2]; omega)).2, if_neg (by omega), f4, w4 _ hm]
/-! ### Spaces -/
structure HeldOK (S : Spa) : Prop where
  slot : S.slot = 0 ∨ S.slot = 1
  chk : chk S.sup = 0
  cur : getS (B (S.dev.read S.slot).1) = (S.sup, 0)
  old : (getS (B (S.dev.read (other S.slot)).1)).2 ≠ 0 ∨ (getS (B (S.dev.read (other S.slot)).1)).1.gen < S.sup.gen
  pgs : ∀ i, i < S.sup.pages.length → (S.dev.read ((S.sup.pages.getD i 0 : Nat) : Int)).1 = mkB (putB S.dev.size.toNat ((2 : UInt8), S.sup.gen, (pagesL S.held (perOf S.dev.size)).getD i ByteArray.empty))
  fit : ∀ c ∈ S.held, c < 65536
def MW (N : Nat) (ps : List Nat) (pg : PgF) : Option (List Nat) → Option (List Nat) → Prop
  | none, none => True
  | some l, some m => WellC N ps pg l m
  | _, _ => False
structure Great (S : Spa) (R H : List Nat) (M : Option (List Nat)) : Prop where
  good : Good S R
  heldOK : HeldOK S
  hwell : WellC S.N S.sup.pages S.page S.held H
  mwell : MW S.N S.sup.pages S.page S.mark M
  room : S.sup.pages.length ≤ S.freeN
theorem MW.pgs_eq {N : Nat} {ps : List Nat} {pg pg' : PgF} {l m : Option (List Nat)} (h : MW N ps pg l m) (ho : ∀ n, cnt l n ≠ 0 → 2 ≤ n → n < N → pg' n = pg n) : MW N ps pg' l m := by
  cases l with
  | none => cases m with
    | none => trivial
    | some _ => exact h.elim
  | some l => cases m with
    | none => exact h.elim
    | some m =>
      have h : WellC N ps pg l m := h
      refine WellC.pgs_eq h (fun n hn => ho n ?_ ?_ (h.lt hn))
      · have := (usedC_iff.1 hn).2.2
        show l.getD n 0 ≠ 0
        omega
      · exact (usedC_iff.1 hn).1
theorem HeldOK.pgsOk {S : Spa} {R : List Nat} (h : HeldOK S) (hg : Good S R) : PgsOk S := by
  obtain ⟨⟨c1, c2, c3, c4⟩, c5, c6⟩ := chk_ok h.chk
  have hN : S.sup.blocks = (S.N : Int) := hg.dims.blocks
  have h4 := pagesOf_cuts (size := S.sup.size) (N := S.N) (by rw [← hN]; exact c1)
  rw [hN, h4] at c4
  refine ⟨hg.well.pgs, ?_, by unfold fmtN at c4; omega⟩
  rw [List.nodup_iff_pairwise_ne, List.pairwise_iff_getElem]
  intro i j hi hj hij e
  apply (c5 j hj).2.2
  rw [List.getD_eq_getElem?_getD, List.getElem?_eq_getElem hj, Option.getD_some, ← e]
  exact List.mem_take_iff_getElem.2 ⟨i, by omega, rfl⟩
theorem great_put {S : Spa} {R H : List Nat} {M : Option (List Nat)} {p : Page} (h : Great S (p.2.1 ++ R) H M) (ht : 3 ≤ p.1.toNat) (hk : (p.2.1.length : Int) ≤ S.room 0 / 4) (hd : (p.2.2.size : Int) ≤ S.room p.2.1.length) (hfree : S.sup.pages.length < S.freeN) :
    (S.put p).2.2 = 0 ∧ PutOk S (S.put p).1 p (S.put p).2.1 ∧ Great (S.put p).1 ((S.put p).2.1 :: R) H M := by
  obtain ⟨h1, h2, h3⟩ := put_good h.good ht hk hd hfree
  refine ⟨h1, h2, ?_⟩
  generalize (S.put p).1 = S' at *
  generalize (S.put p).2.1 = n at *
  have hN : S'.N = S.N := by unfold Spa.N; rw [h2.sup]
  obtain ⟨f1, f2, f3⟩ := isFree_iff.1 h2.free
  have hb := h.good.dims.blocks
  have hn := h.good.dims.n
  have ho := h.heldOK
  have hslot : ∀ j : Int, j = 0 ∨ j = 1 → (S'.dev.read j).1 = (S.dev.read j).1 := fun j hj => h2.read j (by omega) (by omega) (by have := h2.two; omega)
  refine ⟨h3, ⟨?_, ?_, ?_, ?_, ?_, ?_⟩, ?_, ?_, ?_⟩
  · rw [h2.slot]; exact ho.slot
  · rw [h2.sup]; exact ho.chk
  · rw [h2.slot, h2.sup, hslot _ ho.slot]; exact ho.cur
  · rw [h2.slot, h2.sup, hslot _ (by unfold other; split <;> simp)]; exact ho.old
  · intro i hi
    rw [h2.sup] at hi ⊢
    rw [h2.held, h2.dim.1, h2.read _ (by omega) ?_ ?_]
    · exact ho.pgs i hi
    · have := (h.good.well.pgs (S.sup.pages.getD i 0) (by rw [List.getD_eq_getElem?_getD, List.getElem?_eq_getElem hi]; exact List.getElem_mem _)).2.1
      omega
    · intro e
      have e : S.sup.pages.getD i 0 = n := by omega
      apply h2.pgs
      rw [← e, List.getD_eq_getElem?_getD, List.getElem?_eq_getElem hi]; exact List.getElem_mem _
  · rw [h2.held]; exact ho.fit
  · rw [hN, h2.sup, h2.held]
    exact WellC.pgs_eq h.hwell (fun m hm => h2.other m (fun e => by subst e; have := (usedC_iff.1 hm).2.2; omega) (h.hwell.lt hm))
  · rw [hN, h2.sup, h2.mark]
    exact h.mwell.pgs_eq (fun m hm _ hmN => h2.other m (fun e => by subst e; exact hm f3) hmN)
  · have := h2.freeL
    have hh := h.room
    rw [h2.sup]
    unfold Spa.freeN at hfree ⊢
    rw [this] at hfree
    simp only [List.length_cons] at hfree
    omega
theorem Great.setNow {S : Spa} {R R' H : List Nat} {M : Option (List Nat)} {c : List Nat} (h : Great S R H M) (hg : Good { S with now := c } R') (hr : S.sup.pages.length ≤ ({ S with now := c } : Spa).freeN) : Great { S with now := c } R' H M :=
  ⟨hg, ⟨h.heldOK.slot, h.heldOK.chk, h.heldOK.cur, h.heldOK.old, h.heldOK.pgs, h.heldOK.fit⟩, h.hwell, h.mwell, hr⟩
theorem Great.perm {S : Spa} {R R' H : List Nat} {M : Option (List Nat)} (h : Great S R H M) (hp : R.Perm R') : Great S R' H M := ⟨h.good.perm hp, h.heldOK, h.hwell, h.mwell, h.room⟩
/-- Back to what was committed. -/
theorem great_abort {S : Spa} {R H : List Nat} {M : Option (List Nat)} (h : Great S R H M) : Great { S with now := S.held, mark := none } H H none := by
  have hd := h.good.ok
  refine ⟨⟨⟨hd.size, hd.blocks, hd.fits, hd.held, hd.held, fun l hl => by cases hl⟩, h.good.dev, h.good.fuse, h.good.gen, h.hwell⟩, ⟨h.heldOK.slot, h.heldOK.chk, h.heldOK.cur, h.heldOK.old, h.heldOK.pgs, h.heldOK.fit⟩, h.hwell, trivial, Nat.le_trans h.room (freeN_mono rfl fun n hn => ?_)⟩
  obtain ⟨f1, f2, f3⟩ := isFree_iff.1 hn
  exact isFree_iff.2 ⟨f2, f2, rfl⟩
theorem great_open {S : Spa} {R H : List Nat} {M : Option (List Nat)} (h : Great S R H M) : opnOK S.dev ∧ openS S.dev = { S with now := S.held, mark := none } := by
  have ho := h.heldOK
  have hd := h.good.dims
  have hP := ho.pgsOk h.good
  have hsz := h.good.ok.size
  have hgeo := h.good.dev.geo
  obtain ⟨z, N, e1, e2, e3, e4, e5, e6, e7, e8⟩ := h.good.dev.facts
  have hgs : (getS (B (S.dev.read S.slot).1)).2 = 0 := by rw [ho.cur]
  have eC : opnC S.dev = (S.slot, S.sup, 0) := by
    unfold opnC chooseS
    have h1 := ho.cur
    have h2 := ho.old
    rcases ho.slot with e | e
    · rw [e] at h1 h2 ⊢
      have eo : other 0 = 1 := rfl
      rw [eo] at h2
      rw [if_neg (by rw [h1]; exact fun hh => hh.1 rfl), if_neg (by
        rw [h1]
        rintro (hh | ⟨h3, h4⟩)
        · exact hh rfl
        · rcases h2 with h2 | h2
          · exact h2 h3
          · dsimp only at h4; omega), h1]
    · rw [e] at h1 h2 ⊢
      have eo : other 1 = 0 := rfl
      rw [eo] at h2
      rw [if_neg (by rw [h1]; exact fun hh => hh.2 rfl), if_pos (by
        rw [h1]
        rcases h2 with h2 | h2
        · exact .inl h2
        · exact .inr ⟨rfl, h2⟩), h1]
  have hper : 1 ≤ perOf S.dev.size := by omega
  have hPl : (pagesL S.held (perOf S.dev.size)).length = S.sup.pages.length := by
    rw [pagesL_length, hP.len, h.good.ok.held, hsz]
  have ePg : ∀ i, i < S.sup.pages.length → pgK S.dev (S.sup.pages.getD i 0) = (((2 : UInt8), S.sup.gen, (pagesL S.held (perOf S.dev.size)).getD i ByteArray.empty), 0) := by
    intro i hi
    unfold pgK
    rw [ho.pgs i hi, B_mkB]
    have hez : S.dev.size.toNat = z := by omega
    rw [hez]
    have hpl : (B ((pagesL S.held (perOf S.dev.size)).getD i ByteArray.empty)).length ≤ 2 * perOf S.dev.size := by
      have hi' : i < cutsN S.held.length (perOf S.dev.size) := by rw [← pagesL_length]; omega
      unfold pagesL
      rw [List.getD_eq_getElem?_getD, List.getElem?_map, List.getElem?_range hi']
      show (B ⟨(pageB S.held (perOf S.dev.size) i).toArray⟩).length ≤ _
      rw [B_mk]
      exact pageB_len _ _ _
    have hg := h.good.gen
    have := getR_putB (size := z) (f := ((2 : UInt8), S.sup.gen, (pagesL S.held (perOf S.dev.size)).getD i ByteArray.empty)) (by rw [← e1]; omega) (by omega) (by omega) (by dsimp only; omega) (by dsimp only; omega)
    unfold kindR
    rw [this, if_neg (fun hh => hh.2 rfl)]
  have eL : opnL S.dev = pagesL S.held (perOf S.dev.size) := by
    unfold opnL
    rw [eC]
    refine List.ext_getElem? (fun i => ?_)
    show ((S.sup.pages).map fun p => (pgK S.dev p).1.2.2)[i]? = _
    rw [List.getElem?_map]
    by_cases hi : i < S.sup.pages.length
    · have hpi : S.sup.pages[i]? = some (S.sup.pages.getD i 0) := by rw [List.getD_eq_getElem?_getD, List.getElem?_eq_getElem hi]; rfl
      rw [hpi, Option.map_some, ePg i hi, List.getD_eq_getElem?_getD, List.getElem?_eq_getElem (by omega)]
      rfl
    · rw [List.getElem?_eq_none (by omega), List.getElem?_eq_none (by omega)]; rfl
  have eH : loadL (pagesL S.held (perOf S.dev.size)) = S.held := loadL_pages hper ho.fit
  have hbl := hd.blocks
  have hsb := h.good.ok.blocks
  refine ⟨⟨by rw [eC], by rw [eC]; exact hsz, by rw [eC]; exact hsb, fun p hp => ?_, ?_⟩, ?_⟩
  · rw [eC] at hp ⊢
    obtain ⟨i, hi, e⟩ := List.mem_iff_getElem.1 hp
    have e : S.sup.pages.getD i 0 = p := by rw [List.getD_eq_getElem?_getD, List.getElem?_eq_getElem hi]; exact e
    rw [← e, ePg i hi]
    exact ⟨rfl, rfl⟩
  · rw [eL]
    unfold loadE
    have hhl := h.good.ok.held
    have hbN : S.dev.blocks.toNat = S.held.length := by rw [hhl]; omega
    rw [if_neg (by rw [hgeo]; simp), if_neg, eH, if_pos h.hwell.head]
    rw [hbN]
    exact fun hh => hh (pagesL_sizes _ _)
  · unfold openS
    rw [eC, eL, eH]
end Go.Proofs.YtjdmggaeagnolaaGreat.V
/- Spaces that are well: Commit, Format, Mark, Back, Done, Share, Drop: plain. -/
set_option linter.unusedVariables false
set_option linter.unusedSimpArgs false
namespace Go.Proofs.YtjdmggaeagnolaaGreat.V
open Go Go.Proofs Go.RowKit Crc
theorem WellC.swap {N : Nat} {ps ps' : List Nat} {pg pg' : PgF} {c c' R : List Nat} (h : WellC N ps pg c R) (hl : c'.length = N) (hh : c'.getD 0 0 = 1 ∧ c'.getD 1 0 = 1) (hps : ∀ p ∈ ps', 2 ≤ p ∧ p < N ∧ c'.getD p 0 = 1)
    (hu : ∀ n, usedC ps' c' n = usedC ps c n) (hpg : ∀ n, usedC ps c n = true → pg' n = pg n) (hc : ∀ n, 2 ≤ n → n ∉ ps' → c'.getD n 0 = if n ∈ ps then 0 else c.getD n 0) : WellC N ps' pg' c' R := by
  have hs : ∀ x, sumC N ps' pg' c' x = sumC N ps pg c x := by
    intro x
    unfold sumC
    congr 1
    apply List.map_congr_left
    intro m _
    unfold refC
    rw [hu m]
    by_cases hm : usedC ps c m = true
    · rw [if_pos hm, if_pos hm, kidsP, hpg m hm]
    · rw [if_neg hm, if_neg hm]
  refine ⟨hl, h.two, hh, hps, fun n hn => by rw [hu]; exact h.root n hn, fun n hn => ?_, ?_, fun n h2 hn => ?_⟩
  · rw [hu] at hn
    rw [kidsP, hpg n hn]
    exact ⟨(h.good n hn).1, fun k hk => by rw [hu]; exact (h.good n hn).2 k hk⟩
  · obtain ⟨r, hr⟩ := h.rank
    refine ⟨r, fun n hn k hk => ?_⟩
    rw [hu] at hn
    rw [kidsP, hpg n hn] at hk
    exact hr n hn k hk
  · rw [hs, hc n h2 hn]
    by_cases hp : n ∈ ps
    · rw [if_pos hp]
      have hnu : ∀ k, usedC ps c k = true → k ≠ n := fun k hk e => (usedC_iff.1 hk).2.1 (e ▸ hp)
      have h1 : R.count n = 0 := List.count_eq_zero.2 (fun hm => hnu n (h.root n hm) rfl)
      have h2 : sumC N ps pg c n = 0 := by
        unfold sumC
        rw [sum_congr (g := fun _ => 0) (fun m _ => ?_)]
        · exact sum_zeros _
        · unfold refC
          split
          · rename_i hm
            exact List.count_eq_zero.2 (fun hk => hnu n ((h.good m hm).2 n hk) rfl)
          · rfl
      omega
    · rw [if_neg hp]
      exact h.sum n h2 hp
theorem other_two {s : Int} (h : s = 0 ∨ s = 1) : (other s = 0 ∨ other s = 1) ∧ other (other s) = s ∧ other s ≠ s := by
  rcases h with rfl | rfl <;> decide
theorem great_commit {S : Spa} {R H : List Nat} {M : Option (List Nat)} (h : Great S R H M) {root : Nat} (hroot : root = 0 ∨ usedC S.sup.pages S.now root = true) (hgen : S.sup.gen + 1 < 1000000000000) (hfit : ∀ n, S.now.getD n 0 < 65536) :
    S.commit root = (⟨(S.comD root).1, S.next root, other S.slot, S.comC, S.comC, none⟩, 0) ∧ Great (S.commit root).1 R R none ∧ (S.comD root).1.pen = [] ∧ (∀ k, usedC S.sup.pages S.now k = true → (S.commit root).1.page k = S.page k) ∧ S.comE root = 0 ∧ chk (S.next root) = 0 ∧ (S.next root).Fits := by
  have hg := h.good
  have ho := h.heldOK
  have hP := ho.pgsOk hg
  have hdim := hg.dims
  have hN := hdim.n
  have hbl := hdim.blocks
  have hlen := hg.ok.now
  have hsz := hg.ok.size
  have hsb := hg.ok.blocks
  obtain ⟨⟨c1, c2, c3, c4⟩, c5, c6⟩ := chk_ok ho.chk
  have hnl : S.ns.length = S.sup.pages.length := by have := h.room; unfold Spa.ns; rw [List.length_take]; unfold Spa.freeN at this; omega
  have hnsm : ∀ k ∈ S.ns, k < S.N ∧ 2 ≤ k ∧ S.now.getD k 0 = 0 ∧ k ∉ S.sup.pages := fun k hk => by
    obtain ⟨a1, a2, a3⟩ := ns_free hk
    have a4 := (isFree_iff.1 a3).1
    exact ⟨a1, a2, a4, fun e => by have := (hP.at_ k e).2.2; omega⟩
  have hE : S.comE root = 0 := by
    unfold Spa.comE
    have hroot' : root ≠ 0 → S.asked root = true ∧ S.now.getD root 0 ≠ 0 := fun hr => by
      rcases hroot with e | e
      · exact absurd e hr
      · have := used_asked hg e
        exact ⟨this.1, this.2.1⟩
    rw [if_neg (fun hh => by rw [(hroot' hh.1).1] at hh; cases hh.2), if_neg (fun hh => (hroot' hh.1).2 hh.2), if_neg (by have := h.room; omega)]
  have hrootlt : root < S.N := by
    rcases hroot with e | e
    · omega
    · exact (used_asked hg e).2.2
  have hff : (S.next root).Fits := ⟨by show S.sup.gen + 1 < _; omega, hg.ok.fits.size, hg.ok.fits.blocks, by show root < _; omega, fun p hm => by have := (hnsm p hm).1; omega⟩
  have hchk : chk (S.next root) = 0 := by
    rw [chk_long]
    · show (if 14 + 4 * (S.ns.length : Int) > roomOf S.sup.size then (3 : Int) else 0) = 0
      rw [hnl, if_neg (by omega)]
    · refine ⟨c1, (show S.sup.gen + 1 ≠ 0 by omega), ?_, (show (S.ns.length : Int) = pagesOf S.sup.size S.sup.blocks by rw [hnl]; exact c4)⟩
      rcases hroot with e | e
      · exact .inl e
      · right
        have := (usedC_iff.1 e).1
        show pageOK S.sup.blocks root = true
        unfold pageOK
        rw [decide_eq_true]
        exact ⟨this, by omega⟩
    · intro j hj
      have hj : j < S.ns.length := hj
      have eg : (S.next root).pages.getD j 0 = S.ns[j] := by show S.ns.getD j 0 = _; rw [List.getD_eq_getElem?_getD, List.getElem?_eq_getElem hj]; rfl
      obtain ⟨a1, a2, a3, a4⟩ := hnsm _ (List.getElem_mem hj)
      refine ⟨?_, ?_, ?_⟩
      · rw [eg]
        show pageOK S.sup.blocks _ = true
        unfold pageOK
        rw [decide_eq_true]
        exact ⟨a2, by omega⟩
      · rw [eg]
        show S.ns[j] ≠ root
        intro e
        rcases hroot with e2 | e2
        · omega
        · have := (usedC_iff.1 e2).2.2
          rw [e] at a3
          omega
      · rw [eg]
        intro hm
        have hnd := ns_nodup S
        rw [← List.take_append_drop j S.ns, List.drop_eq_getElem_cons hj, List.nodup_append] at hnd
        exact hnd.2.2 _ hm _ List.mem_cons_self rfl
  obtain ⟨o1, o2, o3⟩ := other_two ho.slot
  have hps : ∀ p ∈ (S.next root).pages, 2 ≤ p ∧ (p : Int) < S.dev.blocks := fun p hp => by have := hnsm p hp; rw [← hsb, hbl]; omega
  have hcl := comC_length S
  obtain ⟨k1, k2, k3, k4⟩ := commit_good (d := S.dev) ⟨hg.dev, hg.fuse⟩ (c := S.comC) (s := S.next root) (slot := other S.slot) hchk hsz hps o1
  obtain ⟨r1, r2, r3⟩ := commit_reads (d := S.dev) ⟨hg.dev, hg.fuse⟩ (c := S.comC) (s := S.next root) (slot := other S.slot) hchk hsz hps (ns_nodup S) o1 (by show S.ns.length = _; rw [hnl, hP.len, hcl, hlen, hsz])
  have dm := commitD_dim S.dev S.comC (S.next root) (other S.slot)
  have eD : S.comD root = commitD S.dev S.comC (S.next root) (other S.slot) := rfl
  have eC : S.commit root = (⟨(S.comD root).1, S.next root, other S.slot, S.comC, S.comC, none⟩, 0) := by
    unfold Spa.commit
    rw [if_neg (fun hh => hh hE), if_neg (fun hh => hh k1)]
  have hpage : ∀ k, usedC S.sup.pages S.now k = true → (S.commit root).1.page k = S.page k := by
    intro k hk
    rw [eC]
    have hkN := (used_asked hg hk).2.2
    obtain ⟨a1, a2, a3⟩ := usedC_iff.1 hk
    show pageR S.N (B ((S.comD root).1.read k).1) = pageR S.N (B (S.dev.read k).1)
    rw [eD, r2 (k : Int) (by omega) (by rw [← hsb, hbl]; omega) (by omega) (fun p hp e => by
      have := (hnsm p hp).2.2.1
      have e : p = k := by omega
      subst e
      omega)]
  have hget := comC_get hlen hP
  have hu : ∀ k, usedC S.ns S.comC k = usedC S.sup.pages S.now k := by
    intro k
    rw [Bool.eq_iff_iff, usedC_iff, usedC_iff, hget k]
    by_cases hp : k ∈ S.sup.pages
    · simp [hp]
    · rw [if_neg hp]
      by_cases hn : k ∈ S.ns
      · have := (hnsm k hn).2.2.1
        simp only [hn, not_true_eq_false, false_and, and_false, hp, not_false_eq_true, true_and, false_iff, not_and]
        intro _; omega
      · rw [if_neg hn]; simp [hn, hp]
  have hw : WellC S.N S.ns (S.commit root).1.page S.comC R := by
    refine WellC.swap hg.well (hcl.trans hlen) ?_ (fun p hp => ?_) hu hpage (fun n h2 hn => ?_)
    · have hd := hg.well.head
      rw [hget, hget, if_neg (fun e => by have := (hP.at_ 0 e).1; omega), if_neg (fun e => by have := (hnsm 0 e).2.1; omega), if_neg (fun e => by have := (hP.at_ 1 e).1; omega), if_neg (fun e => by have := (hnsm 1 e).2.1; omega)]
      exact hd
    · obtain ⟨a1, a2, a3, a4⟩ := hnsm p hp
      exact ⟨a2, a1, by rw [hget, if_neg a4, if_pos hp]⟩
    · rw [hget, if_neg hn]
  rw [eC] at hw hpage
  refine ⟨eC, ?_, k3, by rw [eC]; exact hpage, hE, hchk, hff⟩
  rw [eC]
  refine ⟨⟨⟨?_, ?_, hff, ?_, ?_, fun l hl => by cases hl⟩, k2.ok, k2.fuse, hgen, hw⟩, ⟨o1, hchk, ?_, ?_, ?_, ?_⟩, hw, trivial, ?_⟩
  · show S.sup.size = (S.comD root).1.size
    rw [eD, dm.1]; exact hsz
  · show S.sup.blocks = (S.comD root).1.blocks
    rw [eD, dm.2]; exact hsb
  · show S.comC.length = S.N
    rw [hcl, hlen]
  · show S.comC.length = S.N
    rw [hcl, hlen]
  · show getS (B ((S.comD root).1.read (other S.slot)).1) = _
    rw [eD, r1, B_mkB]
    exact getS_put hff (by rw [putS_good hchk])
  · right
    show (getS (B ((S.comD root).1.read (other (other S.slot))).1)).1.gen < S.sup.gen + 1
    rw [o2, eD, r2 S.slot (by have := ho.slot; omega) (by rw [← hsb, hbl]; have := ho.slot; have := hg.well.two; omega) (fun e => o3 e.symm) (fun p hp => by have := (hnsm p hp).2.1; have := ho.slot; omega), ho.cur]
    show S.sup.gen < _
    omega
  · intro i hi
    have hi : i < S.ns.length := hi
    show ((S.comD root).1.read ((S.ns.getD i 0 : Nat) : Int)).1 = mkB (putB (S.comD root).1.size.toNat (2, S.sup.gen + 1, (pagesL S.comC (perOf (S.comD root).1.size)).getD i ByteArray.empty))
    rw [eD, dm.1]
    exact r3 i hi
  · intro c hc
    obtain ⟨i, hi, e⟩ := List.mem_iff_getElem.1 hc
    have e : S.comC.getD i 0 = c := by rw [List.getD_eq_getElem?_getD, List.getElem?_eq_getElem hi]; exact e
    rw [← e, hget]
    have := hfit i
    split
    · omega
    · split <;> omega
  · show S.ns.length ≤ List.length _
    rw [hnl]
    refine nodup_sub hP.nodup (fun p hp => ?_)
    obtain ⟨a1, a2, a3⟩ := hP.at_ p hp
    refine freeL_mem.2 ⟨a2, a1, isFree_iff.2 ⟨?_, ?_, rfl⟩⟩
    · show S.comC.getD p 0 = 0
      rw [hget, if_pos hp]
    · show S.comC.getD p 0 = 0
      rw [hget, if_pos hp]
/-! ### Format -/
theorem fmtN_le2 {size : Int} {N : Nat} (h : geoOK size N = true) : 2 * fmtN size N + 2 ≤ N := by
  obtain ⟨h8, n, hn, h1, h2⟩ := geo8 h
  obtain rfl : N = n := by omega
  obtain ⟨hp1, hp2, _⟩ := perOf_spec h8
  have hx : cutsN N (perOf size) ≤ (N + 55) / 56 := by
    unfold cutsN
    rw [Nat.div_le_iff_le_mul_add_pred (by omega)]
    have h3 : N + 55 < 56 * ((N + 55) / 56 + 1) := Nat.lt_mul_div_succ _ (by omega)
    have h4 : 56 * ((N + 55) / 56) ≤ perOf size * ((N + 55) / 56) := Nat.mul_le_mul_right _ hp1
    omega
  unfold fmtN
  omega
theorem getS_zero (n : Nat) : (getS (B (zeroB n))).2 ≠ 0 := by
  intro h
  obtain ⟨h1, h2⟩ := getS_ok h
  have hc := putS_ok (s := (getS (B (zeroB n))).1) (by rw [h1])
  rw [putS_good hc] at h1
  injection h1 with h1 _
  have h3 : (B (zeroB n)).getD 0 0 = 0 := by
    unfold zeroB
    have : ∀ k : Nat, (List.replicate k (0 : UInt8)).getD 0 0 = 0 := fun k => by cases k <;> rfl
    first
      | (rw [B_mk]; exact this _)
      | (rw [B_mkB]; exact this _)
  rw [← h1] at h3
  have h4 : (putB (getS (B (zeroB n))).1.size.toNat (fraS (getS (B (zeroB n))).1)).getD 0 0 = 1 := by
    unfold putB bodyB headB
    rfl
  rw [h4] at h3
  cases h3
theorem great_format {d : Dev} (h : DevG d) (hchk : chk (fmtS d.size d.blocks.toNat) = 0) : (formatD d).2 = 0 ∧ Great (formatS d) [] [] none ∧ (formatS d).dev.pen = [] := by
  obtain ⟨g1, g2, g3⟩ := format_good h hchk
  refine ⟨g1, ?_, g3⟩
  obtain ⟨z, N, e1, e2, e3, e4, e5, e6, e7, e8⟩ := h.ok.facts
  have hN : d.blocks.toNat = N := by omega
  have hg : geoOK d.size (N : Int) = true := by rw [← e2]; exact h.ok.geo
  obtain ⟨n1, n2, n3⟩ := fmtN_le hg
  have n4 := fmtN_le2 hg
  rw [hN] at hchk
  have hz : (((zeroB d.size.toNat).size : Nat) : Int) = d.size := by rw [zeroB_size]; omega
  have h1 : 0 ≤ (1 : Int) ∧ (1 : Int) < d.blocks := by omega
  obtain ⟨q1, q2, q3⟩ := write_ok h.ok h1 hz h.fuse
  have hw0 := (read_write h.ok h1 hz (by rw [h.fuse]; decide) h1).1
  have hw1 := (read_write h.ok h1 hz (by rw [h.fuse]; decide) h1).2
  have hwd := write_dim d 1 (zeroB d.size.toNat)
  have hpm : ∀ p, p ∈ fmtP (fmtN d.size N) ↔ 2 ≤ p ∧ p < 2 + fmtN d.size N := fun p => by
    unfold fmtP
    constructor
    · intro hp
      obtain ⟨i, hi, rfl⟩ := List.mem_map.1 hp
      have := List.mem_range.1 hi
      omega
    · intro hp
      exact List.mem_map.2 ⟨p - 2, List.mem_range.2 (by omega), by omega⟩
  have hnd : (fmtP (fmtN d.size N)).Nodup := by
    unfold fmtP
    rw [List.nodup_iff_pairwise_ne, List.pairwise_map]
    exact List.Pairwise.imp (fun hab e => by omega) List.pairwise_lt_range
  have hfl := fmtC_length (N := N) (np := fmtN d.size N) n1
  obtain ⟨r1, r2, r3⟩ := commit_reads (d := (d.write 1 (zeroB d.size.toNat)).1) ⟨q1, q2⟩ (c := fmtC N (fmtN d.size N)) (s := fmtS d.size N) (slot := 0) hchk hwd.1.symm (fun p hp => by have := (hpm p).1 hp; rw [hwd.2.1]; omega) hnd (.inl rfl) (by rw [hwd.1, hfl]; exact fmtP_length _)
  have eD : formatD d = commitD (d.write 1 (zeroB d.size.toNat)).1 (fmtC N (fmtN d.size N)) (fmtS d.size N) 0 := by
    unfold formatD
    rw [hN, if_neg (fun hh => hh hchk), if_neg (fun hh => hh hw0)]
  have dm := commitD_dim (d.write 1 (zeroB d.size.toNat)).1 (fmtC N (fmtN d.size N)) (fmtS d.size N) 0
  have eS : formatS d = ⟨(formatD d).1, fmtS d.size N, 0, fmtC N (fmtN d.size N), fmtC N (fmtN d.size N), none⟩ := by unfold formatS; rw [hN]
  rw [eS] at g2 ⊢
  refine ⟨g2, ⟨.inl rfl, hchk, ?_, .inl ?_, ?_, ?_⟩, g2.well, trivial, ?_⟩
  · show getS (B ((formatD d).1.read 0).1) = _
    rw [eD, r1, B_mkB]
    exact getS_put (fmtS_fits hg) (by rw [putS_good hchk])
  · show (getS (B ((formatD d).1.read 1).1)).2 ≠ 0
    rw [eD, r2 1 (by omega) (by rw [hwd.2.1]; omega) (by omega) (fun p hp => by have := (hpm p).1 hp; omega), hw1, if_pos rfl]
    exact getS_zero _
  · intro i hi
    show ((formatD d).1.read (((fmtP (fmtN d.size N)).getD i 0 : Nat) : Int)).1 = mkB (putB (formatD d).1.size.toNat ((2 : UInt8), 1, (pagesL (fmtC N (fmtN d.size N)) (perOf (formatD d).1.size)).getD i ByteArray.empty))
    rw [eD, dm.1]
    exact r3 i hi
  · intro c hc
    have hc : c ∈ fmtC N (fmtN d.size N) := hc
    unfold fmtC at hc
    rw [List.mem_append, List.mem_replicate, List.mem_replicate] at hc
    omega
  · show (fmtP (fmtN d.size N)).length ≤ List.length _
    rw [fmtP_length]
    have := nodup_sub (a := (List.range (fmtN d.size N)).map (· + (2 + fmtN d.size N))) (b := Spa.freeL ⟨(formatD d).1, fmtS d.size N, 0, fmtC N (fmtN d.size N), fmtC N (fmtN d.size N), none⟩) ?_ ?_
    · rw [List.length_map, List.length_range] at this
      exact this
    · rw [List.nodup_iff_pairwise_ne, List.pairwise_map]
      exact List.Pairwise.imp (fun hab e => by omega) List.pairwise_lt_range
    · intro k hk
      obtain ⟨i, hi, rfl⟩ := List.mem_map.1 hk
      have := List.mem_range.1 hi
      refine freeL_mem.2 ⟨by show i + (2 + fmtN d.size N) < ((N : Int)).toNat; omega, by omega, isFree_iff.2 ⟨?_, ?_, rfl⟩⟩
      · show (fmtC N (fmtN d.size N)).getD _ 0 = 0
        rw [fmtC_get n1, if_neg (by omega)]
      · show (fmtC N (fmtN d.size N)).getD _ 0 = 0
        rw [fmtC_get n1, if_neg (by omega)]
/-! ### Marks -/
theorem great_mark {S : Spa} {R H : List Nat} {M : Option (List Nat)} (h : Great S R H M) : Great { S with mark := some S.now } R H (some R) := by
  have hd := h.good.ok
  refine ⟨⟨⟨hd.size, hd.blocks, hd.fits, hd.held, hd.now, fun l hl => by cases hl; exact hd.now⟩, h.good.dev, h.good.fuse, h.good.gen, h.good.well⟩, ⟨h.heldOK.slot, h.heldOK.chk, h.heldOK.cur, h.heldOK.old, h.heldOK.pgs, h.heldOK.fit⟩, h.hwell, h.good.well, Nat.le_trans h.room (freeN_mono rfl fun n hn => ?_)⟩
  obtain ⟨f1, f2, f3⟩ := isFree_iff.1 hn
  exact isFree_iff.2 ⟨f1, f2, f1⟩
theorem great_back {S : Spa} {R H m l : List Nat} (h : Great S R H (some m)) (hm : S.mark = some l) : Great { S with now := l, mark := none } m H none := by
  have hd := h.good.ok
  have hw := h.mwell
  rw [hm] at hw
  refine ⟨⟨⟨hd.size, hd.blocks, hd.fits, hd.held, hd.mark l hm, fun l hl => by cases hl⟩, h.good.dev, h.good.fuse, h.good.gen, hw⟩, ⟨h.heldOK.slot, h.heldOK.chk, h.heldOK.cur, h.heldOK.old, h.heldOK.pgs, h.heldOK.fit⟩, h.hwell, trivial, Nat.le_trans h.room (freeN_mono rfl fun n hn => ?_)⟩
  obtain ⟨f1, f2, f3⟩ := isFree_iff.1 hn
  rw [hm] at f3
  exact isFree_iff.2 ⟨f3, f2, rfl⟩
theorem great_done {S : Spa} {R H : List Nat} {M : Option (List Nat)} (h : Great S R H M) : Great { S with mark := none } R H none := by
  have hd := h.good.ok
  refine ⟨⟨⟨hd.size, hd.blocks, hd.fits, hd.held, hd.now, fun l hl => by cases hl⟩, h.good.dev, h.good.fuse, h.good.gen, h.good.well⟩, ⟨h.heldOK.slot, h.heldOK.chk, h.heldOK.cur, h.heldOK.old, h.heldOK.pgs, h.heldOK.fit⟩, h.hwell, trivial, Nat.le_trans h.room (freeN_mono rfl fun n hn => ?_)⟩
  obtain ⟨f1, f2, f3⟩ := isFree_iff.1 hn
  exact isFree_iff.2 ⟨f1, f2, rfl⟩
theorem Great.less {S : Spa} {R R' H : List Nat} {M : Option (List Nat)} {c : List Nat} (h : Great S R H M) (hg : Good { S with now := c } R') (hle : ∀ k, c.getD k 0 ≤ S.now.getD k 0) : Great { S with now := c } R' H M := by
  refine h.setNow hg (Nat.le_trans h.room (freeN_mono rfl fun n hn => ?_))
  obtain ⟨f1, f2, f3⟩ := isFree_iff.1 hn
  exact isFree_iff.2 ⟨by have := hle n; show c.getD n 0 = 0; omega, f2, f3⟩
theorem Great.more {S : Spa} {R R' H : List Nat} {M : Option (List Nat)} {n : Nat} (h : Great S R H M) (hu : usedC S.sup.pages S.now n = true) (hg : Good { S with now := S.now.set n (S.now.getD n 0 + 1) } R') : Great { S with now := S.now.set n (S.now.getD n 0 + 1) } R' H M := by
  refine h.setNow hg (Nat.le_trans h.room (freeN_mono rfl fun k hk => ?_))
  obtain ⟨f1, f2, f3⟩ := isFree_iff.1 hk
  refine isFree_iff.2 ⟨?_, f2, f3⟩
  show (S.now.set n (S.now.getD n 0 + 1)).getD k 0 = 0
  have := (usedC_iff.1 hu).2.2
  rw [getD_setN, if_neg (fun e => by rw [e.1] at this; omega)]
  exact f1
end Go.Proofs.YtjdmggaeagnolaaGreat.V
/- Blobs: plain. -/
set_option linter.unusedVariables false
set_option linter.unusedSimpArgs false
namespace Go.Proofs.YtjdmggaeagnolaaGreat.V
open Go Go.Proofs Go.RowKit Crc
/-- The device holds what it held, but in blocks that were free. -/
structure Kept (S S' : Spa) : Prop where
  sup : S'.sup = S.sup
  held : S'.held = S.held
  mark : S'.mark = S.mark
  slot : S'.slot = S.slot
  dim : S'.dev.size = S.dev.size ∧ S'.dev.blocks = S.dev.blocks
  read : ∀ k : Int, 0 ≤ k → k < S.N → (k.toNat < 2 ∨ S.isFree k.toNat = false) → (S'.dev.read k).1 = (S.dev.read k).1
/-! ### Several Puts -/
structure Puts (S Si : Spa) (R ks : List Nat) (ps : List Page) : Prop where
  good : Good Si (ks ++ R)
  sup : Si.sup = S.sup
  held : Si.held = S.held
  mark : Si.mark = S.mark
  slot : Si.slot = S.slot
  len : ps.length = ks.length
  free : S.freeL = ks ++ Si.freeL
  page : ∀ j, j < ks.length → Si.page (ks.getD j 0) = (ps.getD j page0, 0)
  other : ∀ k, k < S.N → k ∉ ks → Si.page k = S.page k
  now : ∀ k, Si.now.getD k 0 = if k ∈ ks then 1 else S.now.getD k 0
  nlen : Si.now.length = S.now.length
  pen : Si.dev.pen.length = S.dev.pen.length + ks.length
  read : ∀ k : Int, 0 ≤ k → k < S.N → k.toNat ∉ ks → (Si.dev.read k).1 = (S.dev.read k).1
  dim : Si.dev.size = S.dev.size ∧ Si.dev.blocks = S.dev.blocks
theorem Puts.N {S Si : Spa} {R ks : List Nat} {ps : List Page} (h : Puts S Si R ks ps) : Si.N = S.N := by unfold Spa.N; rw [h.sup]
theorem Puts.nil {S : Spa} {R : List Nat} (h : Good S R) : Puts S S R [] [] := ⟨h, rfl, rfl, rfl, rfl, rfl, rfl, fun j hj => absurd hj (Nat.not_lt_zero j), fun _ _ _ => rfl, fun _ => by simp, rfl, rfl, fun _ _ _ _ => rfl, rfl, rfl⟩
theorem Puts.mem {S Si : Spa} {R ks : List Nat} {ps : List Page} (h : Puts S Si R ks ps) {k : Nat} (hk : k ∈ ks) : 2 ≤ k ∧ k < S.N ∧ S.isFree k = true ∧ k ∉ S.sup.pages := by
  have hm : k ∈ S.freeL := by rw [h.free]; exact List.mem_append_left _ hk
  obtain ⟨h1, h2, h3⟩ := freeL_mem.1 hm
  refine ⟨h2, h1, h3, fun hp => ?_⟩
  have hpg := (h.good.well.pgs k (by rw [h.sup]; exact hp)).2.2
  have hu := h.good.well.root k (List.mem_append_left _ hk)
  have := (usedC_iff.1 hu).2.1
  rw [h.sup] at this
  exact this hp
theorem Puts.kept {S Si : Spa} {R ks : List Nat} {ps : List Page} (h : Puts S Si R ks ps) : Kept S Si :=
  ⟨h.sup, h.held, h.mark, h.slot, h.dim, fun k h0 hk hf => h.read k h0 hk (fun hm => by
    obtain ⟨a1, a2, a3, a4⟩ := h.mem hm
    rcases hf with hf | hf
    · omega
    · rw [hf] at a3; cases a3)⟩
theorem Puts.step {S Si : Spa} {R ks : List Nat} {ps : List Page} (h : Puts S Si R ks ps) {t : UInt8} {d : ByteArray} (ht : 3 ≤ t.toNat) (hd : (d.size : Int) ≤ Si.room 0) (hfree : Si.sup.pages.length < Si.freeN) :
    (Si.put (t, [], d)).2.2 = 0 ∧ Puts S (Si.put (t, [], d)).1 R (ks ++ [(Si.put (t, [], d)).2.1]) (ps ++ [(t, [], d)]) := by
  have hdim := h.good.dims
  have hsz := hdim.size
  have hr0 : Si.room 0 = Si.sup.size - 18 := by unfold Spa.room; rw [hdim.room, if_neg (by omega)]; omega
  obtain ⟨h1, h2, h3⟩ := put_good (p := (t, [], d)) (R := ks ++ R) h.good ht (by show (0 : Int) ≤ _; omega) hd hfree
  refine ⟨h1, ?_⟩
  generalize (Si.put (t, [], d)).2.1 = n at *
  generalize (Si.put (t, [], d)).1 = S' at *
  have hnk : n ∉ ks := fun hk => by
    have hf := (isFree_iff.1 h2.free).1
    rw [h.now n, if_pos hk] at hf
    cases hf
  refine ⟨h3.perm ?_, h2.sup.trans h.sup, h2.held.trans h.held, h2.mark.trans h.mark, h2.slot.trans h.slot, by simp [h.len], ?_, fun j hj => ?_, fun k hk hks => ?_, fun k => ?_, ?_, ?_, fun k h0 hk hks => ?_, h2.dim.1.trans h.dim.1, h2.dim.2.trans h.dim.2⟩
  · rw [List.append_assoc]
    exact List.perm_middle.symm
  · rw [h.free, h2.freeL, List.append_assoc, List.singleton_append]
  · rw [List.length_append, List.length_singleton] at hj
    by_cases hjl : j < ks.length
    · rw [show (ks ++ [n]).getD j 0 = ks.getD j 0 by rw [List.getD_eq_getElem?_getD, List.getElem?_append_left hjl, ← List.getD_eq_getElem?_getD], show (ps ++ [((t, [], d) : Page)] : List Page).getD j page0 = ps.getD j page0 by rw [List.getD_eq_getElem?_getD, List.getElem?_append_left (by rw [h.len]; exact hjl), ← List.getD_eq_getElem?_getD]]
      have hmem : ks.getD j 0 ∈ ks := by rw [List.getD_eq_getElem?_getD, List.getElem?_eq_getElem hjl]; exact List.getElem_mem hjl
      rw [h2.other _ (fun e => hnk (e ▸ hmem)) (by rw [h.N]; exact (h.mem hmem).2.1), h.page j hjl]
    · obtain rfl : j = ks.length := by omega
      rw [show (ks ++ [n]).getD ks.length 0 = n by simp, show (ps ++ [((t, [], d) : Page)] : List Page).getD ks.length page0 = (t, [], d) by rw [← h.len]; simp]
      exact h2.page
  · simp only [List.mem_append, List.mem_singleton, not_or] at hks
    rw [h2.other k hks.2 (by rw [h.N]; exact hk), h.other k hk hks.1]
  · rw [h2.now, getD_setN, h.now k]
    have hnl : n < Si.now.length := by have := h2.lt; rw [h.good.ok.now]; exact this
    by_cases hkn : n = k
    · subst hkn
      rw [if_pos ⟨rfl, hnl⟩, if_pos (by simp)]
    · rw [if_neg (fun e => hkn e.1)]
      by_cases hk : k ∈ ks
      · rw [if_pos hk, if_pos (List.mem_append_left _ hk)]
      · rw [if_neg hk, if_neg (fun e => by rcases List.mem_append.1 e with e | e; exact hk e; exact hkn (List.mem_singleton.1 e).symm)]
  · rw [h2.now, List.length_set]; exact h.nlen
  · rw [h2.pen, h.pen, List.length_append, List.length_singleton]; omega
  · simp only [List.mem_append, List.mem_singleton, not_or] at hks
    rw [h2.read k h0 (by rw [h.N]; exact hk) (by omega), h.read k h0 hk hks.1]
def part (r : Nat) (b : ByteArray) (i : Nat) : ByteArray := b.extract (i * r) (min b.size ((i + 1) * r))
def Spa.r0 (S : Spa) : Nat := (S.room 0).toNat
end Go.Proofs.YtjdmggaeagnolaaGreat.V
/- Spaces that are well, and blobs; what may have changed is told by Kept: plain. -/
set_option linter.unusedVariables false
set_option linter.unusedSimpArgs false
namespace Go.Proofs.YtjdmggaeagnolaaGreat.V
open Go Go.Proofs Go.RowKit Crc
theorem Great.kept {S S' : Spa} {R R' H : List Nat} {M : Option (List Nat)} (h : Great S R H M) (hk : Kept S S') (hg : Good S' R') (hr : S.sup.pages.length ≤ S'.freeN) : Great S' R' H M := by
  have hN : S'.N = S.N := by unfold Spa.N; rw [hk.sup]
  have hn := h.good.dims.n
  have h2 := h.good.well.two
  have ho := h.heldOK
  have hslot : ∀ j : Int, j = 0 ∨ j = 1 → (S'.dev.read j).1 = (S.dev.read j).1 := fun j hj => hk.read j (by omega) (by omega) (.inl (by omega))
  have hpage : ∀ k, k < S.N → S.isFree k = false → S'.page k = S.page k := fun k hkN hf => by
    unfold Spa.page
    rw [hN, hk.read (k : Int) (by omega) (by omega) (.inr (by rw [Int.toNat_natCast]; exact hf))]
  have nofree : ∀ k, (S.now.getD k 0 ≠ 0 ∨ S.held.getD k 0 ≠ 0 ∨ cnt S.mark k ≠ 0) → S.isFree k = false := fun k hh => by
    cases hq : S.isFree k with
    | false => rfl
    | true =>
      obtain ⟨f1, f2, f3⟩ := isFree_iff.1 hq
      rcases hh with e | e | e
      · exact absurd f1 e
      · exact absurd f2 e
      · exact absurd f3 e
  refine ⟨hg, ⟨?_, ?_, ?_, ?_, ?_, ?_⟩, ?_, ?_, by rw [hk.sup]; exact hr⟩
  · rw [hk.slot]; exact ho.slot
  · rw [hk.sup]; exact ho.chk
  · rw [hk.slot, hk.sup, hslot _ ho.slot]; exact ho.cur
  · rw [hk.slot, hk.sup, hslot _ (by unfold other; split <;> simp)]; exact ho.old
  · intro i hi
    rw [hk.sup] at hi ⊢
    have hm : S.sup.pages.getD i 0 ∈ S.sup.pages := by rw [List.getD_eq_getElem?_getD, List.getElem?_eq_getElem hi]; exact List.getElem_mem _
    obtain ⟨a1, a2, a3⟩ := h.good.well.pgs _ hm
    rw [hk.held, hk.dim.1, hk.read _ (by omega) (by omega) (.inr (nofree _ (.inl (by rw [Int.toNat_natCast]; omega))))]
    exact ho.pgs i hi
  · rw [hk.held]; exact ho.fit
  · rw [hN, hk.sup, hk.held]
    exact WellC.pgs_eq h.hwell (fun m hm => hpage m (h.hwell.lt hm) (nofree m (.inr (.inl (by have := (usedC_iff.1 hm).2.2; omega)))))
  · rw [hN, hk.sup, hk.mark]
    exact h.mwell.pgs_eq (fun m hm _ hmN => hpage m hmN (nofree m (.inr (.inr hm))))
end Go.Proofs.YtjdmggaeagnolaaGreat.V
/- Spaces of one's own, short: Commit, Open, Root, Format of nothing. -/
set_option linter.unusedVariables false
set_option linter.unusedSimpArgs false
namespace Go.Proofs.YtjdmggaeagnolaaGreat.V
open Go Go.Proofs Go.RowKit Crc
variable {w0 w w' : World} {b db : Nat} {S : Spa} {R H : List Nat} {M : Option (List Nat)}
theorem format_nil (w : World) : Calls Tryz.prog 10 #[.pointer none] w (Ret fun v w' => v = .tuple #[.pointer none, .int .i64 1] ∧ w' = w) := by
  apply calls10
  unfold S10
  exact splitW_t (by rfl) ⟨rfl, rfl⟩
end Go.Proofs.YtjdmggaeagnolaaGreat.V
/- Contracts of the package space: Abort, Mark, Back, Done, Gen. -/
set_option linter.unusedVariables false
set_option linter.unusedSimpArgs false
namespace Go.Proofs.YtjdmggaeagnolaaGreat.V
open Go Go.Proofs Go.RowKit Crc
theorem spOwn_perm (b hb hr nb nr : Nat) (x : SLC) (m : MkL) : (spOwn b hb hr nb nr x m).Perm ((b :: hb :: hr :: rowL x) ++ (nb :: nr :: mkBl m)) := by
  unfold spOwn
  refine List.Perm.cons b (List.Perm.cons hb (List.Perm.cons hr ?_))
  refine List.Perm.trans ?_ List.perm_middle.symm
  exact List.Perm.cons nb List.perm_middle.symm
variable {w w' : World} {b db : Nat} {S : Spa} {F Fd : Nat → Prop} {x : SLC} {hb hr nb nr : Nat} {m : MkL}
theorem SpM.parts (h : SpM w b db S F Fd x hb hr nb nr m) : (b :: hb :: hr :: rowL x).Nodup ∧ (nb :: nr :: mkBl m).Nodup ∧ ∀ k ∈ nb :: nr :: mkBl m, k ∉ b :: hb :: hr :: rowL x := by
  have := (List.Perm.nodup_iff (spOwn_perm b hb hr nb nr x m)).1 h.nodup
  rw [List.nodup_append] at this
  exact ⟨this.1, this.2.1, fun k hk hk2 => this.2.2 k hk2 k hk rfl⟩
/-- The counts are others. -/
theorem SpM.remake (h : SpM w b db S F Fd x hb hr nb nr m) (ob : Only (fun k => k = b) w w') {nb' nr' : Nat} {m' : MkL} {now' : List Nat} {mark' : Option (List Nat)} {t : TypeId} (hbx : Blk w' b (spV db S.sup x S.slot hb nb' m') t)
    (hnow : ∃ q, Cnt w nb' nr' S.sup.size q now') (hmk : MkAt w S.sup.size m' mark') (hne : ∀ k ∈ nb' :: nr' :: mkBl m', k ∉ b :: hb :: hr :: rowL x ∧ ¬ Fd k) (hnd : (nb' :: nr' :: mkBl m').Nodup) (hl : now'.length = S.N) (hlm : ∀ l, mark' = some l → l.length = S.N) :
    SpM w' b db { S with now := now', mark := mark' } (fun k => Fd k ∨ k ∈ spOwn b hb hr nb' nr' x m') Fd x hb hr nb' nr' m' := by
  obtain ⟨p1, p2, p3⟩ := h.parts
  obtain ⟨q, hc⟩ := hnow
  obtain ⟨q1, c1⟩ := h.heldC
  have hap := h.apart
  have hnb : ∀ k ∈ nb' :: nr' :: mkBl m', ¬ k = b := fun k hk e => (hne k hk).1 (by rw [e]; simp)
  have hbb : ∀ k, k ∈ hb :: hr :: rowL x → ¬ k = b := fun k hk e => by
    rw [List.nodup_cons] at p1
    exact p1.1 (e ▸ hk)
  refine ⟨⟨t, hbx⟩, h.dev.apart ob (fun j hj e => hap b (by simp [spOwn]) (by rw [← show j = b from e]; exact hj)), ⟨h.pgs.sl.only ob (fun a ha => hbb _ (by simp [rowL, ha])), h.pgs.nc⟩, ⟨q1, c1.only ob (hbb _ (by simp)) (hbb _ (by simp))⟩, ⟨q, hc.only ob (hnb _ (by simp)) (hnb _ (by simp))⟩, hmk.only ob (fun j hj => hnb j (by simp [hj])), fun _ => Iff.rfl, ?_, ?_, fun j hj => Nat.lt_of_lt_of_le (h.rowlt j hj) ob.2.2.2.1, ⟨h.ok.size, h.ok.blocks, h.ok.fits, h.ok.held, hl, hlm⟩⟩
  · rw [List.Perm.nodup_iff (spOwn_perm b hb hr nb' nr' x m'), List.nodup_append]
    exact ⟨p1, hnd, fun a ha c hc e => (hne c hc).1 (e ▸ ha)⟩
  · intro k hk
    rcases List.mem_append.1 ((spOwn_perm b hb hr nb' nr' x m').mem_iff.1 hk) with e | e
    · exact hap k ((spOwn_perm b hb hr nb nr x m).mem_iff.2 (List.mem_append_left _ e))
    · exact (hne k e).2
theorem SpM.sub (h : SpM w b db S F Fd x hb hr nb nr m) {nb' nr' : Nat} {m' : MkL} (hs : ∀ k ∈ nb' :: nr' :: mkBl m', k ∈ nb :: nr :: mkBl m ∨ w.heap.size ≤ k) : (∀ k ∈ nb' :: nr' :: mkBl m', k ∉ b :: hb :: hr :: rowL x ∧ ¬ Fd k) ∧ ∀ k, (Fd k ∨ k ∈ spOwn b hb hr nb' nr' x m') → F k ∨ w.heap.size ≤ k := by
  obtain ⟨p1, p2, p3⟩ := h.parts
  have hlt := h.lt
  refine ⟨fun k hk => ?_, fun k hk => ?_⟩
  · rcases hs k hk with e | e
    · exact ⟨p3 k e, h.apart k ((spOwn_perm b hb hr nb nr x m).mem_iff.2 (List.mem_append_right _ e))⟩
    · refine ⟨fun hm => ?_, fun hf => ?_⟩
      · have := hlt k ((h.own k).2 (.inr ((spOwn_perm b hb hr nb nr x m).mem_iff.2 (List.mem_append_left _ hm))))
        omega
      · have := hlt k ((h.own k).2 (.inl hf))
        omega
  · rcases hk with hk | hk
    · exact .inl ((h.own k).2 (.inl hk))
    · rcases List.mem_append.1 ((spOwn_perm b hb hr nb' nr' x m').mem_iff.1 hk) with e | e
      · exact .inl ((h.own k).2 (.inr ((spOwn_perm b hb hr nb nr x m).mem_iff.2 (List.mem_append_left _ e))))
      · rcases hs k e with e | e
        · exact .inl ((h.own k).2 (.inr ((spOwn_perm b hb hr nb nr x m).mem_iff.2 (List.mem_append_right _ e))))
        · exact .inr e
theorem SpM.bF (h : SpM w b db S F Fd x hb hr nb nr m) : F b := (h.own b).2 (.inr (by simp [spOwn]))
theorem MkAt.ptr {w : World} {size : Int} {m : MkL} {l : Option (List Nat)} (h : MkAt w size m l) : (mkPt m).isNone = l.isNone := by
  cases m <;> cases l <;> first | rfl | exact h.elim
theorem abort_calls (h : SpM w b db S F Fd x hb hr nb nr m) :
    Calls Tryz.prog 21 #[.pointer (some ⟨b, 0, none⟩)] w (Ret fun v w' => v = .int .i64 0 ∧ StepS w b db F { S with now := S.held, mark := none } w') := by
  apply calls21
  unfold S21
  obtain ⟨t, hbx⟩ := h.box
  obtain ⟨q1, c1⟩ := h.heldC
  refine splitW_f (by rfl) (ptr_i (boxE (l := .ptr) 7 (some ⟨hb, 0, none⟩) hbx (by rfl) (by rfl) ?_))
  refine callW_of (cntclone_calls c1) ?_
  rintro _ w1 ⟨⟨b2, r2, q2, rfl, hc1, hb2, hr2⟩, he1⟩
  refine ⟨some ⟨b2, 0, none⟩, rfl, ?_⟩
  have h1 := h.ext he1
  refine ptr_i (stE (hbx.ext he1) (o := 8) (by rfl) (by show 8 < 10; omega) fun w2 hb12 oc2 => ?_)
  refine ptr_i (stE hb12 (o := 9) (by rfl) (by show 9 < 10; omega) fun w3 hb13 oc3 => ?_)
  have ob : Only (fun k => k = b) w1 w3 := Only.trans oc2 oc3 (fun j hj => .inl hj)
  have hs := h1.sub (nb' := b2) (nr' := r2) (m' := none)
  obtain ⟨s1, s2⟩ := h.sub (nb' := b2) (nr' := r2) (m' := none) (fun k hk => by
    simp only [mkBl, List.mem_cons, List.not_mem_nil, or_false] at hk
    rcases hk with rfl | rfl
    · exact .inr hb2
    · exact .inr hr2)
  have hm := h1.remake ob (nb' := b2) (nr' := r2) (m' := none) (mark' := none) hb13 ⟨q2, hc1⟩ trivial s1 (by simp [mkBl]; exact hc1.ne) h.ok.held (fun l hl => by cases hl)
  exact ⟨rfl, _, hm.toAt, s2, Only.trans (Only.of_ext (F := F) he1) ob (fun j hj => .inl (by rw [show j = b from hj]; exact h.bF))⟩
theorem mark_calls (h : SpM w b db S F Fd x hb hr nb nr m) (hm : S.mark = none) :
    Calls Tryz.prog 15 #[.pointer (some ⟨b, 0, none⟩)] w (Ret fun v w' => v = .int .i64 0 ∧ StepS w b db F { S with mark := some S.now } w') := by
  apply calls15
  unfold S15
  obtain ⟨t, hbx⟩ := h.box
  obtain ⟨q1, c1⟩ := h.nowC
  have hmp := h.markC.ptr
  rw [hm] at hmp
  refine splitW_f (by rfl) (ptr_i (boxE (l := .ptr) 9 (mkPt m) hbx (by rfl) (by rfl) ?_))
  refine splitW_f (by rw [hmp]; rfl) ?_
  refine ptr_i (boxE (l := .ptr) 8 (some ⟨nb, 0, none⟩) hbx (by rfl) (by rfl) ?_)
  refine callW_of (cntclone_calls c1) ?_
  rintro _ w1 ⟨⟨b2, r2, q2, rfl, hc1, hb2, hr2⟩, he1⟩
  refine ⟨some ⟨b2, 0, none⟩, rfl, ?_⟩
  have h1 := h.ext he1
  refine ptr_i (stE (hbx.ext he1) (o := 9) (by rfl) (by show 9 < 10; omega) fun w3 hb13 ob => ?_)
  obtain ⟨s1, s2⟩ := h.sub (nb' := nb) (nr' := nr) (m' := some (b2, r2)) (fun k hk => by
    simp only [mkBl, List.mem_cons, List.not_mem_nil, or_false] at hk
    rcases hk with rfl | rfl | rfl | rfl
    · exact .inl (by simp)
    · exact .inl (by simp)
    · exact .inr hb2
    · exact .inr hr2)
  have hnb := h.lt nb ((h.own nb).2 (.inr (by simp [spOwn])))
  have hnr := h.lt nr ((h.own nr).2 (.inr (by simp [spOwn])))
  have hm := h1.remake ob (nb' := nb) (nr' := nr) (m' := some (b2, r2)) (mark' := some S.now) hb13 ⟨q1, c1.ext he1⟩ ⟨q2, hc1⟩ s1 (by
    have := c1.ne
    have := hc1.ne
    simp only [mkBl, List.nodup_cons, List.mem_cons, List.not_mem_nil, or_false, not_or, not_false_eq_true, List.nodup_nil, and_true]
    omega) h.ok.now (fun l hl => by cases hl; exact h.ok.now)
  exact ⟨rfl, _, hm.toAt, s2, Only.trans (Only.of_ext (F := F) he1) ob (fun j hj => .inl (by rw [show j = b from hj]; exact h.bF))⟩
theorem sback_calls (h : SpM w b db S F Fd x hb hr nb nr m) {l : List Nat} (hm : S.mark = some l) :
    Calls Tryz.prog 18 #[.pointer (some ⟨b, 0, none⟩)] w (Ret fun v w' => v = .int .i64 0 ∧ StepS w b db F { S with now := l, mark := none } w') := by
  apply calls18
  unfold S18
  obtain ⟨t, hbx⟩ := h.box
  have hmk := h.markC
  have hl := h.ok.mark l hm
  rw [hm] at hmk
  cases m with
  | none => exact hmk.elim
  | some a =>
    obtain ⟨q, hc⟩ := hmk
    refine splitW_f (by rfl) (ptr_i (boxE (l := .ptr) 9 (some ⟨a.1, 0, none⟩) hbx (by rfl) (by rfl) ?_))
    refine splitW_f (by rfl) ?_
    refine ptr_i (boxE (l := .ptr) 9 (some ⟨a.1, 0, none⟩) hbx (by rfl) (by rfl) ?_)
    refine ptr_i (stE hbx (o := 8) (by rfl) (by show 8 < 10; omega) fun w2 hb12 oc2 => ?_)
    refine ptr_i (stE hb12 (o := 9) (by rfl) (by show 9 < 10; omega) fun w3 hb13 oc3 => ?_)
    have ob : Only (fun k => k = b) w w3 := Only.trans oc2 oc3 (fun j hj => .inl hj)
    obtain ⟨s1, s2⟩ := h.sub (nb' := a.1) (nr' := a.2) (m' := none) (fun k hk => by
      simp only [mkBl, List.mem_cons, List.not_mem_nil, or_false] at hk
      rcases hk with rfl | rfl <;> exact .inl (by simp [mkBl]))
    have hm := h.remake ob (nb' := a.1) (nr' := a.2) (m' := none) (mark' := none) hb13 ⟨q, hc⟩ trivial s1 (by simp [mkBl]; exact hc.ne) hl (fun l hl => by cases hl)
    exact ⟨rfl, _, hm.toAt, s2, ob.mono (fun j hj => by rw [show j = b from hj]; exact h.bF)⟩
theorem sdone_calls (h : SpM w b db S F Fd x hb hr nb nr m) {l : List Nat} (hm : S.mark = some l) :
    Calls Tryz.prog 19 #[.pointer (some ⟨b, 0, none⟩)] w (Ret fun v w' => v = .int .i64 0 ∧ StepS w b db F { S with mark := none } w') := by
  apply calls19
  unfold S19
  obtain ⟨t, hbx⟩ := h.box
  obtain ⟨q1, c1⟩ := h.nowC
  have hmp := h.markC.ptr
  rw [hm] at hmp
  refine splitW_f (by rfl) (ptr_i (boxE (l := .ptr) 9 (mkPt m) hbx (by rfl) (by rfl) ?_))
  refine splitW_f (by rw [hmp]; rfl) ?_
  refine ptr_i (stE hbx (o := 9) (by rfl) (by show 9 < 10; omega) fun w3 hb13 ob => ?_)
  obtain ⟨s1, s2⟩ := h.sub (nb' := nb) (nr' := nr) (m' := none) (fun k hk => by
    simp only [mkBl, List.mem_cons, List.not_mem_nil, or_false] at hk
    rcases hk with rfl | rfl <;> exact .inl (by simp))
  have hm := h.remake ob (nb' := nb) (nr' := nr) (m' := none) (mark' := none) hb13 ⟨q1, c1⟩ trivial s1 (by simp [mkBl]; exact c1.ne) h.ok.now (fun l hl => by cases hl)
  exact ⟨rfl, _, hm.toAt, s2, ob.mono (fun j hj => by rw [show j = b from hj]; exact h.bF)⟩
theorem gen_calls (h : SpM w b db S F Fd x hb hr nb nr m) :
    Calls Tryz.prog 27 #[.pointer (some ⟨b, 0, none⟩)] w (Ret fun v w' => v = .int .u64 (S.sup.gen : Int) ∧ w' = w) := by
  apply calls27
  unfold S27
  obtain ⟨t, hbx⟩ := h.box
  exact splitW_f (by rfl) (ptr_i (boxE (l := .int .u64) 1 (S.sup.gen : Int) hbx (by rfl) (by rfl) ⟨rfl, rfl⟩))
end Go.Proofs.YtjdmggaeagnolaaGreat.V
/- Great spaces: contracts, short, by the blocks that they own. -/
set_option linter.unusedVariables false
set_option linter.unusedSimpArgs false
namespace Go.Proofs.YtjdmggaeagnolaaGreat.V
open Go Go.Proofs Go.RowKit Crc
theorem MW.none_iff {N : Nat} {ps : List Nat} {pg : PgF} {l m : Option (List Nat)} (h : MW N ps pg l m) : (l = none ↔ m = none) := by
  cases l <;> cases m <;> first | exact h.elim | simp
variable {w w' : World} {b db : Nat} {S : Spa} {F : Nat → Prop} {R H : List Nat} {M : Option (List Nat)}
theorem sp_fit (h : SpAt w b db S F) : ∀ n, S.now.getD n 0 < 65536 := by
  obtain ⟨Fd, x, hb, hr, nb, nr, m, h⟩ := h
  exact fun n => (cnt_lt h n).1
theorem sp_free (h : SpAt w b db S F) : Calls Tryz.prog 17 #[.pointer (some ⟨b, 0, none⟩)] w (Ret fun v w' => v = .int .i64 (S.freeN : Int) ∧ Ext w w') := by
  obtain ⟨Fd, x, hb, hr, nb, nr, m, h⟩ := h
  exact freeN_calls h
theorem sp_get (h : SpAt w b db S F) {n : Nat} (hn : n < 4294967296) : Calls Tryz.prog 22 #[.pointer (some ⟨b, 0, none⟩), .int .u32 (n : Int)] w (Ret (PgRet w (S.get n))) := by
  obtain ⟨Fd, x, hb, hr, nb, nr, m, h⟩ := h
  exact getS_calls h hn
theorem sp_root (h : SpAt w b db S F) : Calls Tryz.prog 26 #[.pointer (some ⟨b, 0, none⟩)] w (Ret fun v w' => v = .int .u32 (S.sup.root : Int) ∧ w' = w) := by
  obtain ⟨Fd, x, hb, hr, nb, nr, m, h⟩ := h
  exact root_calls h
theorem sp_audit (h : SpAt w b db S F) (hg : Good S R) {x0 : SLC} (hs : Sli (numE .u32) w x0.1 x0.2.1 R) (hx : ∀ a, x0.1 = some a → a.block < w.heap.size) :
    Calls Tryz.prog 34 #[.pointer (some ⟨b, 0, none⟩), .slice x0.1 x0.2.1 x0.2.2] w (Ret fun v w' => v = .int .i64 0 ∧ Ext w w') := by
  have hfit := sp_fit h
  obtain ⟨Fd, x, hb, hr, nb, nr, m, h'⟩ := h
  obtain ⟨d, ys, s', v1, v2, v3, v4⟩ := audit_good hg hfit
  have hN := hg.dims.n
  refine (audit_calls h' (x0 := x0) hs (fun k hk => by have := hg.well.lt (hg.well.root k hk); omega) hx (fun p hp => (hg.well.pgs p hp).2.1) v2 v3 v1).mono (Ret.mono ?_)
  rintro v w' ⟨rfl, he⟩
  refine ⟨?_, he⟩
  rw [if_neg (by simp), if_pos v4]
theorem sp_walk (h : SpAt w b db S F) (hg : Good S R) {x0 : SLC} (hs : Sli (numE .u32) w x0.1 x0.2.1 R) (hx : ∀ a, x0.1 = some a → a.block < w.heap.size) :
    Calls Tryz.prog 35 #[.pointer (some ⟨b, 0, none⟩), .slice x0.1 x0.2.1 x0.2.2] w (Ret fun v w' => Ext w w' ∧ ∃ A c, v = .tuple #[.slice A S.N c, .int .i64 0] ∧ Owni intE 3 w' w.heap.size A S.N c (allL S.now)) := by
  have hfit := sp_fit h
  obtain ⟨Fd, x, hb, hr, nb, nr, m, h'⟩ := h
  obtain ⟨d, ys, s', v1, v2, v3, v4⟩ := audit_good hg hfit
  have hN := hg.dims.n
  refine (walk_calls h' (x0 := x0) hs (fun k hk => by have := hg.well.lt (hg.well.root k hk); omega) hx (fun p hp => (hg.well.pgs p hp).2.1) v2 v3 v1).mono (Ret.mono ?_)
  rintro v w' ⟨he, ⟨hne, _⟩ | ⟨_, A, c, rfl, ho⟩⟩
  · exact absurd rfl hne
  · rw [v4] at ho
    exact ⟨he, A, c, rfl, ho⟩
/-! ### What changes -/
/-- What a Put may come to. -/
def PutR (S S' : Spa) (p : Page) (R H : List Nat) (M : Option (List Nat)) (n : Nat) (e : Int) : Prop :=
  (e = 3 ∧ n = 0 ∧ S' = S ∧ S.room p.2.1.length < (p.2.2.size : Int)) ∨ (e = 9 ∧ n = 0 ∧ S' = S ∧ S.freeN ≤ S.sup.pages.length) ∨ (e = 0 ∧ PutOk S S' p n ∧ Great S' (n :: R) H M ∧ ∀ q ∈ S'.dev.pen, q ∈ S.dev.pen ∨ q.1 = (n : Int))
theorem put_pen {S : Spa} {p : Page} (h : (S.put p).2.2 = 0) : ∀ q ∈ (S.put p).1.dev.pen, q ∈ S.dev.pen ∨ q.1 = ((S.put p).2.1 : Int) := by
  revert h
  unfold Spa.put
  split
  · rename_i hq
    intro h
    exact absurd h hq
  · split
    · rename_i _ hq
      intro h
      exact absurd h hq
    · split
      · rename_i _ _ hq
        intro h
        exact absurd h hq
      · intro _ q hq
        revert hq
        dsimp only
        unfold writeF
        split
        · exact fun hq => .inl hq
        · unfold Dev.write
          split
          · exact fun hq => .inl hq
          · split
            · exact fun hq => .inl hq
            · intro hq
              rcases List.mem_append.1 hq with e | e
              · exact .inl e
              · rw [List.mem_singleton.1 e]
                exact .inr rfl
theorem sp_put (h : SpAt w b db S F) {p : Page} {A : Option Addr} {n c : Nat} (hg : Great S (p.2.1 ++ R) H M) (hpen : S.dev.pen.length ≤ 900000) (hs : Sli (numE .u32) w A n p.2.1) (hA : ∀ a, A = some a → ¬ F a.block) (ht : 3 ≤ p.1.toNat) (hk : (p.2.1.length : Int) ≤ S.room 0 / 4) (hds : p.2.2.size ≤ 1000000000) :
    Calls Tryz.prog 13 #[.pointer (some ⟨b, 0, none⟩), .agg (pgV p (A, n, c)).toArray] w (Ret fun v w' => ∃ (S' : Spa) (k : Nat) (e : Int), v = .tuple #[.int .u32 (k : Int), .int .i64 e] ∧ PutR S S' p R H M k e ∧ StepS w b db F S' w') := by
  obtain ⟨Fd, x, hb, hr, nb, nr, m, h'⟩ := h
  have hdim := hg.good.dims
  have hN := hdim.n
  have hsz := hdim.size
  have hroom := hdim.room
  have hku : ∀ k ∈ p.2.1, usedC S.sup.pages S.now k = true := fun k hk => hg.good.well.root k (List.mem_append_left _ hk)
  have hr0 : S.room 0 = S.sup.size - 18 := by unfold Spa.room; rw [hroom, if_neg (by omega)]; omega
  refine (putS_calls h' hg.good.h01 (by have := hg.good.gen; omega) (by omega) p hs (fun k hk => by
    have := hg.good.well.lt (hku k hk)
    omega) hA hds).mono (Ret.mono ?_)
  rintro v w' ⟨rfl, hst⟩
  refine ⟨(S.put p).1, (S.put p).2.1, (S.put p).2.2, rfl, ?_, hst⟩
  have c1 : ¬ (p.1.toNat < 3 ∨ p.2.1.length > 65535 ∨ ∃ k ∈ p.2.1, S.asked k = false) := by
    rintro (e | e | ⟨k, hk, e⟩)
    · omega
    · omega
    · rw [(used_asked hg.good (hku k hk)).1] at e; cases e
  have c2 : ¬ ∃ k ∈ p.2.1, S.now.getD k 0 = 0 := by
    rintro ⟨k, hk, e⟩
    exact (used_asked hg.good (hku k hk)).2.1 e
  by_cases hd : (p.2.2.size : Int) ≤ S.room p.2.1.length
  · by_cases hf : S.sup.pages.length < S.freeN
    · obtain ⟨g1, g2, g3⟩ := great_put hg ht hk hd hf
      exact .inr (.inr ⟨g1, g2, g3, put_pen g1⟩)
    · have hE : S.putE p = 9 := by
        unfold Spa.putE
        rw [if_neg c1, if_neg c2, if_neg (by rintro (e | e) <;> omega), if_pos (by omega)]
      have hP : S.put p = (S, 0, 9) := by unfold Spa.put; rw [if_pos (by rw [hE]; decide), hE]
      rw [hP]
      exact .inr (.inl ⟨rfl, rfl, rfl, by omega⟩)
  · have hE : S.putE p = 3 := by
      unfold Spa.putE
      rw [if_neg c1, if_neg c2, if_pos (.inr (by omega))]
    have hP : S.put p = (S, 0, 3) := by unfold Spa.put; rw [if_pos (by rw [hE]; decide), hE]
    rw [hP]
    exact .inl ⟨rfl, rfl, rfl, by omega⟩
theorem sp_drop (h : SpAt w b db S F) {n : Nat} (hg : Great S (n :: R) H M) : Calls Tryz.prog 16 #[.pointer (some ⟨b, 0, none⟩), .int .u32 (n : Int)] w (Ret fun v w' => v = .int .i64 0 ∧ ∃ c' : List Nat, Great { S with now := c' } R H M ∧ StepS w b db F { S with now := c' } w' ∧ Drp S.asked S.page S.now [n] c' 0 ∧ ∀ k, c'.getD k 0 ≤ S.now.getD k 0) := by
  obtain ⟨Fd, x, hb, hr, nb, nr, m, h'⟩ := h
  obtain ⟨c', d1, d2, d3, d4⟩ := drop_good hg.good
  have hu := hg.good.well.root n (by simp)
  have hnN := hg.good.well.lt hu
  have hN := hg.good.dims.n
  refine (drop_calls h' (n := n) (by omega) (c' := c') (e := 0) (fun _ => d1) (fun e => by rw [(used_asked hg.good hu).1] at e; cases e)).mono (Ret.mono ?_)
  rintro v w' ⟨rfl, hS, hO⟩
  exact ⟨rfl, c', hg.less d2 d4, ⟨F, hS.toAt, fun k hk => .inl hk, hO⟩, d1, d4⟩
theorem sp_share (h : SpAt w b db S F) {n : Nat} (hg : Great S R H M) (hu : usedC S.sup.pages S.now n = true) (h6 : S.now.getD n 0 < 65535) :
    Calls Tryz.prog 25 #[.pointer (some ⟨b, 0, none⟩), .int .u32 (n : Int)] w (Ret fun v w' => v = .int .i64 0 ∧ Great { S with now := S.now.set n (S.now.getD n 0 + 1) } (n :: R) H M ∧ StepS w b db F { S with now := S.now.set n (S.now.getD n 0 + 1) } w') := by
  obtain ⟨Fd, x, hb, hr, nb, nr, m, h'⟩ := h
  obtain ⟨s1, s2, s3⟩ := share_good hg.good hu h6
  have hnN := hg.good.well.lt hu
  have hN := hg.good.dims.n
  refine (share_calls h' (n := n) (by omega)).mono (Ret.mono ?_)
  rintro v w' ⟨rfl, hS, hO⟩
  rw [s1]
  rw [s3] at s2 hS
  exact ⟨rfl, hg.more hu s2, F, hS.toAt, fun k hk => .inl hk, hO⟩
/-- What a Commit leaves. -/
structure ComOk (S S' : Spa) (root : Nat) (R : List Nat) : Prop where
  great : Great S' R R none
  sup : S'.sup = S.next root
  now : S'.now = S.comC
  held : S'.held = S.comC
  mark : S'.mark = none
  pen : S'.dev.pen = []
  page : ∀ k, usedC S.sup.pages S.now k = true → S'.page k = S.page k
theorem sp_commit (h : SpAt w b db S F) (hg : Great S R H M) {root : Nat} (hroot : root = 0 ∨ usedC S.sup.pages S.now root = true) (hgen : S.sup.gen + 1 < 1000000000000) (hpen : S.dev.pen.length ≤ 900000) :
    Calls Tryz.prog 24 #[.pointer (some ⟨b, 0, none⟩), .int .u32 (root : Int)] w (Ret fun v w' => v = .int .i64 0 ∧ ComOk S (S.commit root).1 root R ∧ StepS w b db F (S.commit root).1 w') := by
  have hfit := sp_fit h
  obtain ⟨Fd, x, hb, hr, nb, nr, m, h'⟩ := h
  obtain ⟨c1, c2, c3, c4, c5, c6, c7⟩ := great_commit hg hroot hgen hfit
  have hr32 : root < 4294967296 := by
    have := hg.good.dims.n
    rcases hroot with e | e
    · omega
    · have := (used_asked hg.good e).2.2; omega
  refine (commitS_calls h' hg.good.h01 (hg.heldOK.pgsOk hg.good) (by omega) hpen hr32).mono (Ret.mono ?_)
  rintro v w' ⟨rfl, hst⟩
  exact ⟨by rw [c1], ⟨c2, by rw [c1], by rw [c1], by rw [c1], by rw [c1], by rw [c1]; exact c3, c4⟩, hst⟩
theorem sp_open (h : SpAt w b db S F) (hg : Great S R H M) :
    Calls Tryz.prog 12 #[.pointer (some ⟨db, 0, none⟩)] w (Ret fun v w' => ∃ b' F', v = .tuple #[.pointer (some ⟨b', 0, none⟩), .int .i64 0] ∧ SpAt w' b' db { S with now := S.held, mark := none } F' ∧ Ext w w' ∧ w.heap.size ≤ b' ∧ ∀ k, F' k → F k ∨ w.heap.size ≤ k) := by
  obtain ⟨Fd, x, hb, hr, nb, nr, m, h'⟩ := h
  obtain ⟨o1, o2⟩ := great_open hg
  refine (open_calls h'.dev).mono (Ret.mono ?_)
  rintro v w' ⟨he, ⟨hn, _⟩ | ⟨_, b', F', rfl, hS, hb', hF⟩⟩
  · exact absurd o1 hn
  · rw [o2] at hS
    refine ⟨b', F', rfl, hS, he, hb', fun k hk => ?_⟩
    rcases hF k hk with e | e
    · exact .inl ((h'.own k).2 (.inl e))
    · exact .inr e
theorem sp_abort (h : SpAt w b db S F) : Calls Tryz.prog 21 #[.pointer (some ⟨b, 0, none⟩)] w (Ret fun v w' => v = .int .i64 0 ∧ StepS w b db F { S with now := S.held, mark := none } w') := by
  obtain ⟨Fd, x, hb, hr, nb, nr, m, h'⟩ := h
  exact abort_calls h'
theorem sp_mark (h : SpAt w b db S F) (hm : S.mark = none) : Calls Tryz.prog 15 #[.pointer (some ⟨b, 0, none⟩)] w (Ret fun v w' => v = .int .i64 0 ∧ StepS w b db F { S with mark := some S.now } w') := by
  obtain ⟨Fd, x, hb, hr, nb, nr, m, h'⟩ := h
  exact mark_calls h' hm
theorem sp_back (h : SpAt w b db S F) {l : List Nat} (hm : S.mark = some l) : Calls Tryz.prog 18 #[.pointer (some ⟨b, 0, none⟩)] w (Ret fun v w' => v = .int .i64 0 ∧ StepS w b db F { S with now := l, mark := none } w') := by
  obtain ⟨Fd, x, hb, hr, nb, nr, m, h'⟩ := h
  exact sback_calls h' hm
theorem sp_done (h : SpAt w b db S F) {l : List Nat} (hm : S.mark = some l) : Calls Tryz.prog 19 #[.pointer (some ⟨b, 0, none⟩)] w (Ret fun v w' => v = .int .i64 0 ∧ StepS w b db F { S with mark := none } w') := by
  obtain ⟨Fd, x, hb, hr, nb, nr, m, h'⟩ := h
  exact sdone_calls h' hm
end Go.Proofs.YtjdmggaeagnolaaGreat.V
/- Acts that came in, opened. -/
set_option linter.unusedVariables false
set_option linter.unusedSimpArgs false
namespace Go.Proofs.YtjdmggaeagnolaaGreat.V
open Go Go.ChangeShapes Go.WideShapes Go.ChangeAt Go.RowKit Go.Deep Go.Proofs Crc
theorem n_u8 {z : Int} (h : (Lit.int .u8 z).wf = true) : ∃ y : UInt8, z = (y.toNat : Int) := by
  have := nat_u8 h
  exact ⟨UInt8.ofNat z.toNat, by rw [UInt8.toNat_ofNat']; omega⟩
abbrev ActV := Int × UInt8 × Int × Int × ByteArray
def actE : Enc ActV where
  k := 5
  f a := [.int .i64 a.1, .int .u8 (a.2.1.toNat : Int), .int .i64 a.2.2.1, .int .i64 a.2.2.2.1, .string a.2.2.2.2]
  len _ := rfl
  one _ := by
    intro v hv
    simp only [List.mem_cons, List.not_mem_nil, or_false] at hv
    rcases hv with rfl | rfl | rfl | rfl | rfl <;> rfl
  pos := by decide
def I64 (z : Int) : Prop := -9223372036854775808 ≤ z ∧ z < 9223372036854775808
def actQ (a : ActV) : Prop := I64 a.1 ∧ I64 a.2.2.1 ∧ I64 a.2.2.2.1 ∧ a.2.2.2.2.size ≤ 9223372036854775807
section
variable {H : Type} {enc : TypeId × Value → H} {w : World} {base : Nat} {spare : Nat → Bool} {held : Bool}
theorem dec_act {n : Nat} {cs : List Value} {x : DataW H × List MemPlace} (h : DataW.trod enc Tryz.prog w base spare held n 59 cs = some x) : ∃ a : ActV, actE.f a = cs ∧ actQ a := by
  obtain ⟨hl, m, hf2⟩ := dec_fields (ts := [3, 5, 3, 3, 9]) (by kernel_rfl) (by kernel_rfl) (by kernel_rfl) (by kernel_rfl) h
  obtain ⟨v0, y0, e0, h0⟩ := hf2 0 _ rfl
  obtain ⟨v1, y1, e1, h1⟩ := hf2 1 _ rfl
  obtain ⟨v2, y2, e2, h2⟩ := hf2 2 _ rfl
  obtain ⟨v3, y3, e3, h3⟩ := hf2 3 _ rfl
  obtain ⟨v4, y4, e4, h4⟩ := hf2 4 _ rfl
  obtain ⟨z0, hz0, hw0⟩ := dec_int (k := .i64) (by kernel_rfl) h0
  obtain ⟨z1, hz1, hw1⟩ := dec_int (k := .u8) (by kernel_rfl) h1
  obtain ⟨z2, hz2, hw2⟩ := dec_int (k := .i64) (by kernel_rfl) h2
  obtain ⟨z3, hz3, hw3⟩ := dec_int (k := .i64) (by kernel_rfl) h3
  obtain ⟨s, hs, hsl⟩ := dec_string (by kernel_rfl) h4
  obtain ⟨u, rfl⟩ := n_u8 hw1
  cases hz0; cases hz1; cases hz2; cases hz3; cases hs
  refine ⟨(z0, u, z2, z3, s), ?_, nat_i64 hw0, nat_i64 hw2, nat_i64 hw3, by simpa [maxLen] using hsl⟩
  match cs, hl with
  | [a0, a1, a2, a3, a4], _ =>
    simp only [List.getElem?_cons_zero, List.getElem?_cons_succ, Option.some.injEq] at e0 e1 e2 e3 e4
    rw [e0, e1, e2, e3, e4]
    rfl
end
end Go.Proofs.YtjdmggaeagnolaaGreat.V
/- Law 13: runs in memory; pick, page, Own, light. -/
set_option linter.unusedVariables false
set_option linter.unusedSimpArgs false
namespace Go.Proofs.YtjdmggaeagnolaaGreat.V
open Go Go.Proofs Go.RowKit Crc
/-- A row of blocks that nobody else writes. -/
structure RowN (w : World) (F : Nat → Prop) (r : Nat) (x : SLC) (l : List Nat) : Prop where
  sl : Sli (numE .u32) w x.1 x.2.1 l
  cap : x.2.1 ≤ x.2.2
  apart : ∀ a, x.1 = some a → a.block < w.heap.size ∧ ¬ F a.block ∧ a.block ≠ r
theorem RowN.nil (w : World) (F : Nat → Prop) (r : Nat) : RowN w F r (none, 0, 0) [] := ⟨Sli.nil w none, Nat.le_refl _, fun a ha => by cases ha⟩
theorem RowN.of {w : World} {F : Nat → Prop} {r B : Nat} {e : TypeId} {A : Option Addr} {n c : Nat} {l : List Nat} (h : Owni (numE .u32) e w B A n c l) (hF : ∀ k, F k → k < B) (hr : r < B) : RowN w F r (A, n, c) l := by
  refine ⟨h.sl, h.le.1, fun a ha => ?_⟩
  have ha : A = some a := ha
  have h1 := h.row a.block (by rw [ha]; rfl)
  have h2 := h.row_lt a.block (by rw [ha]; rfl)
  exact ⟨h2, fun hf => by have := hF _ hf; omega, by omega⟩
theorem RowN.step {w w' : World} {F F' G : Nat → Prop} {r : Nat} {x : SLC} {l : List Nat} (h : RowN w F r x l) (hO : Only G w w') (hG : ∀ k, G k → F k ∨ k = r ∨ w.heap.size ≤ k) (hF : ∀ k, F' k → F k ∨ w.heap.size ≤ k) : RowN w' F' r x l := by
  refine ⟨h.sl.only hO (fun a ha hg => ?_), h.cap, fun a ha => ?_⟩
  · obtain ⟨a1, a2, a3⟩ := h.apart a ha
    rcases hG _ hg with e | e | e
    · exact a2 e
    · exact a3 e
    · omega
  · obtain ⟨a1, a2, a3⟩ := h.apart a ha
    refine ⟨Nat.lt_of_lt_of_le a1 hO.2.2.2.1, fun hf => ?_, a3⟩
    rcases hF _ hf with e | e
    · exact a2 e
    · omega
theorem RowN.ext {w w' : World} {F : Nat → Prop} {r : Nat} {x : SLC} {l : List Nat} (h : RowN w F r x l) (he : Ext w w') : RowN w' F r x l := h.step (Only.of_ext (F := fun _ => False) he) (fun _ h => h.elim) (fun k hk => .inl hk)
def runV (db b : Nat) (xo xh xm : SLC) (mk : Bool) (root : Nat) : List Value :=
  [.pointer (some ⟨db, 0, none⟩), .pointer (some ⟨b, 0, none⟩), .slice xo.1 xo.2.1 xo.2.2, .slice xh.1 xh.2.1 xh.2.2, .slice xm.1 xm.2.1 xm.2.2, .bool mk, .int .u32 (root : Int)]
structure RunX (w0 w : World) (r db b : Nat) (S : Spa) (F : Nat → Prop) (xo xh xm : SLC) (own held mark : List Nat) (mk : Bool) (root : Nat) : Prop where
  box : Blk w r (runV db b xo xh xm mk root) 61
  sp : SpAt w b db S F
  base : ∀ k, F k → w0.heap.size ≤ k
  rr : w0.heap.size ≤ r ∧ ¬ F r
  ro : RowN w F r xo own
  rh : RowN w F r xh held
  rm : RowN w F r xm mark
  x : Ext w0 w
variable {w0 w w' : World} {r db b : Nat} {S : Spa} {F : Nat → Prop} {xo xh xm : SLC} {own held mark : List Nat} {mk : Bool} {root : Nat}
theorem RunX.ext (h : RunX w0 w r db b S F xo xh xm own held mark mk root) (he : Ext w w') : RunX w0 w' r db b S F xo xh xm own held mark mk root :=
  ⟨h.box.ext he, h.sp.ext he, h.base, h.rr, h.ro.ext he, h.rh.ext he, h.rm.ext he, h.x.trans he⟩
theorem RunX.step {S' : Spa} (h : RunX w0 w r db b S F xo xh xm own held mark mk root) (hst : StepS w b db F S' w') : ∃ F', RunX w0 w' r db b S' F' xo xh xm own held mark mk root := by
  obtain ⟨F', g1, g2, g3⟩ := hst
  have hrl := h.box.lt
  have hG : ∀ k, F k → F k ∨ k = r ∨ w.heap.size ≤ k := fun k hk => .inl hk
  refine ⟨F', h.box.only g3 h.rr.2, g1, fun k hk => ?_, ⟨h.rr.1, fun hf => ?_⟩, h.ro.step g3 hG g2, h.rh.step g3 hG g2, h.rm.step g3 hG g2, Only.ext h.x g3 h.base⟩
  · rcases g2 k hk with e | e
    · exact h.base k e
    · exact Nat.le_trans h.x.size e
  · rcases g2 r hf with e | e
    · exact h.rr.2 e
    · omega
/-- The run's block has been changed. -/
theorem RunX.set {xo' xh' xm' : SLC} {own' held' mark' : List Nat} {mk' : Bool} {root' : Nat} (h : RunX w0 w r db b S F xo xh xm own held mark mk root) (ob : Only (fun k => k = r) w w')
    (hb : Blk w' r (runV db b xo' xh' xm' mk' root') 61) (ho : RowN w F r xo' own') (hh : RowN w F r xh' held') (hm : RowN w F r xm' mark') : RunX w0 w' r db b S F xo' xh' xm' own' held' mark' mk' root' := by
  have hG : ∀ k, (fun k => k = r) k → F k ∨ k = r ∨ w.heap.size ≤ k := fun k hk => .inr (.inl hk)
  have hF : ∀ k, F k → F k ∨ w.heap.size ≤ k := fun k hk => .inl hk
  exact ⟨hb, h.sp.only ob (fun j hj e => h.rr.2 (by rw [← show j = r from e]; exact hj)), h.base, h.rr, ho.step ob hG hF, hh.step ob hG hF, hm.step ob hG hF, Only.ext h.x ob (fun j hj => by rw [show j = r from hj]; exact h.rr.1)⟩
/-- The run goes on with another space. -/
theorem RunX.swap {b' : Nat} {S' : Spa} {F' : Nat → Prop} {xo' : SLC} {own' : List Nat} {mk' : Bool} {w1 : World} (h : RunX w0 w r db b S F xo xh xm own held mark mk root) (he : Ext w w1) (hs : SpAt w1 b' db S' F') (hF' : ∀ k, F' k → F k ∨ w.heap.size ≤ k) (ob : Only (fun k => k = r) w1 w')
    (hb : Blk w' r (runV db b' xo' xh xm mk' root) 61) (ho : RowN w1 F' r xo' own') : RunX w0 w' r db b' S' F' xo' xh xm own' held mark mk' root := by
  have hrl := h.box.lt
  have h1 := h.ext he
  have hrF : ¬ F' r := fun hf => by
    rcases hF' r hf with e | e
    · exact h.rr.2 e
    · omega
  have hG : ∀ k, (fun k => k = r) k → F' k ∨ k = r ∨ w1.heap.size ≤ k := fun k hk => .inr (.inl hk)
  have hF : ∀ k, F' k → F' k ∨ w1.heap.size ≤ k := fun k hk => .inl hk
  have re : ∀ {x : SLC} {l : List Nat}, RowN w F r x l → RowN w1 F' r x l := fun hr => hr.step (Only.of_ext (F := fun _ => False) he) (fun _ h => h.elim) hF'
  refine ⟨hb, hs.only ob (fun j hj e => hrF (by rw [← show j = r from e]; exact hj)), fun k hk => ?_, ⟨h.rr.1, hrF⟩, ho.step ob hG hF, (re h.rh).step ob hG hF, (re h.rm).step ob hG hF, Only.ext h1.x ob (fun j hj => by rw [show j = r from hj]; exact h.rr.1)⟩
  rcases hF' k hk with e | e
  · exact h.base k e
  · exact Nat.le_trans h.x.size e
/-! ### Small functions -/
theorem own_u32 {w : World} {A : Option Addr} {n c : Nat} {l : List Nat} (h : Sli (numE .u32) w A n l) (hn : n ≤ 1000000) :
    Calls Tryz.prog 70 #[.slice A n c] w (Ret fun v w' => ∃ x : SLC, v = .slice x.1 x.2.1 x.2.2 ∧ Owni (numE .u32) 35 w' w.heap.size x.1 x.2.1 x.2.2 l ∧ Ext w w') := by
  apply calls70
  unfold S70
  apply newW_i
  have ho : Owni (numE .u32) 35 (w.alloc (.cells #[] 35)) w.heap.size (some ⟨w.heap.size, 0, none⟩) 0 0 [] := Owni.lit (E := numE .u32) (xs := []) rfl (Nat.le_refl _) (by omega)
  have he : Ext w (w.alloc (.cells #[] 35)) := (Ext.refl w).alloc _
  refine append_sli (c := 0) (n := 0) (m := n) elem_u32 ho he.size (h.ext he) (by omega) (by omega) ?_
  intro A' c' w' ho' hg _
  rw [List.nil_append, Nat.zero_add] at ho'
  rw [Nat.zero_add]
  exact ⟨(A', n, c'), rfl, ho', he.grown hg.grown (fun j hj => ho.row j hj)⟩
/-- A number behind a row of one's own. -/
theorem app_one {w : World} {B : Nat} {A : Option Addr} {n c r v : Nat} {l : List Nat} {K : SLC → WP} (ho : Owni (numE .u32) 35 w B A n c l) (hB : B ≤ w.heap.size) (hb : Blk w r [.int .u32 (v : Int)] 35) (hn : n ≤ 1000000)
    (hK : ∀ A' c' w', Owni (numE .u32) 35 w' B A' (n + 1) c' (l ++ [v]) → (∀ w0, Ext w0 w → w0.heap.size ≤ B → Ext w0 w') → K (A', n + 1, c') w') :
    runW Tryz.prog (Builtin.append_ #[38, 38] 38 #[.slice A n c, .slice (some (⟨r, 0, none⟩ : Addr)) 1 1]) .slc K w := by
  have hs : Sli (numE .u32) w (some ⟨r, 0, none⟩) 1 [v] := Sli.of_blk hb rfl (by omega)
  refine append_sli elem_u32 ho hB hs (by omega) (by omega) ?_
  intro A' c' w' ho' hg _
  exact hK A' c' w' ho' (fun w0 he hw0 => he.grown hg.grown (fun j hj => Nat.le_trans hw0 (ho.row j hj)))
def pickI (own : List Nat) (n : Int) : Int := if own.length = 0 then -1 else pick n own.length
theorem rpick_calls (h : RunX w0 w r db b S F xo xh xm own held mark mk root) {n : Int} (hn : I64 n) (hl : own.length ≤ 1000000) :
    Calls Tryz.prog 67 #[.pointer (some ⟨r, 0, none⟩), .int .i64 n] w (Ret fun v w' => v = .int .i64 (pickI own n) ∧ w' = w) := by
  apply calls67
  unfold S67 pickI
  have hol := h.ro.sl.len
  refine ptr_i (boxE (l := .slc) 2 xo h.box (by rfl) (by rfl) ?_)
  refine splitW_i (fun hq => ?_) (fun hq => ?_)
  · have hq := beq_iff_eq.1 hq
    rw [if_pos (by omega)]
    exact ⟨rfl, rfl⟩
  · have hq := beq_eq_false_iff_ne.1 hq
    rw [if_neg (by omega)]
    refine ptr_i (boxE (l := .slc) 2 xo h.box (by rfl) (by rfl) ?_)
    refine callW_of (pick_calls w hn.1 hn.2 (by omega)) ?_
    rintro _ w1 ⟨rfl, hw1⟩
    refine ⟨_, rfl, ?_, hw1⟩
    rw [show ((xo.2.1 : Nat) : Int) = ((own.length : Nat) : Int) by omega]
theorem pick_lt {n m : Int} (h : 0 < m) : 0 ≤ pick n m ∧ pick n m < m := by
  unfold pick
  rw [if_neg (by omega)]
  exact ⟨Int.emod_nonneg _ (by omega), Int.emod_lt_of_pos _ h⟩
theorem pickI_cases (own : List Nat) (n : Int) : pickI own n = -1 ∨ ∃ i : Nat, pickI own n = (i : Int) ∧ i < own.length := by
  unfold pickI
  split
  · exact .inl rfl
  · have := pick_lt (n := n) (m := (own.length : Int)) (by omega)
    exact .inr ⟨(pick n own.length).toNat, by omega, by omega⟩
def kidN (own : List Nat) (k : Int) : Nat := (pick k (min 4 (own.length + 1) : Nat)).toNat
theorem kidN_le (own : List Nat) (k : Int) : kidN own k ≤ 3 ∧ kidN own k ≤ own.length := by
  have := pick_lt (n := k) (m := ((min 4 (own.length + 1) : Nat) : Int)) (by omega)
  unfold kidN
  omega
def tagP (t : UInt8) : UInt8 := UInt8.ofNat (3 + t.toNat % 200)
theorem tagP_nat (t : UInt8) : (tagP t).toNat = 3 + t.toNat % 200 := by
  unfold tagP
  rw [UInt8.toNat_ofNat']
  omega
def pageP (own : List Nat) (a : ActV) : Page := (tagP a.2.1, own.drop (own.length - kidN own a.2.2.1), a.2.2.2.2)
theorem tag_wrap (t : UInt8) : IntKind.wrap .u8 ((3 : Int) + Int.tmod (t.toNat : Int) 200) = ((tagP t).toNat : Int) := by
  rw [tagP_nat]
  have h1 : Int.tmod (t.toNat : Int) 200 = ((t.toNat % 200 : Nat) : Int) := by
    rw [Int.tmod_eq_emod_of_nonneg (by omega)]; omega
  rw [h1, wrap_u8]
  omega
theorem rpage_calls (h : RunX w0 w r db b S F xo xh xm own held mark mk root) {a : ActV} (ha : actQ a) (hl : own.length ≤ 1000000) :
    Calls Tryz.prog 69 #[.pointer (some ⟨r, 0, none⟩), .agg (actE.f a).toArray] w (Ret fun v w' => ∃ y : SLC, v = .agg (pgV (pageP own a) y).toArray ∧ Owni (numE .u32) 35 w' w.heap.size y.1 y.2.1 y.2.2 (pageP own a).2.1 ∧ Ext w w') := by
  apply calls69
  unfold S69
  have hol := h.ro.sl.len
  have hcap := h.ro.cap
  refine new_i fun r1 w1 hb1 he1 hr1 hz1 => ?_
  have hb1 : Blk w1 r1 (actE.f a) _ := hb1
  refine new_i fun r2 w2 hb2 he2 hr2 hz2 => ?_
  have he02 := he1.trans he2
  refine draw_i fun w3 he3 _ _ => ?_
  have he03 := he02.trans he3
  have hb13 := (hb1.ext he2).ext he3
  have h3 := h.ext he03
  refine boxF (l := .int .i64) 2 a.2.2.1 hb13 (by rfl) ?_
  refine ptr_i (boxE (l := .slc) 2 xo h3.box (by rfl) (by rfl) ?_)
  have e1 : IntKind.wrap .i64 (((xo.2.1 : Nat) : Int) + 1) = ((own.length + 1 : Nat) : Int) := by rw [wrap_i64 (by omega) (by omega)]; omega
  rw [e1]
  have e2 : (if ((own.length + 1 : Nat) : Int) < 4 then ((own.length + 1 : Nat) : Int) else 4) = ((min 4 (own.length + 1) : Nat) : Int) := by split <;> omega
  rw [e2]
  refine callW_of (pick_calls w3 ha.2.1.1 ha.2.1.2 (by omega)) ?_
  rintro _ w4 ⟨rfl, hw4⟩
  refine ⟨_, rfl, ?_⟩
  rw [hw4]
  have hkn : pick a.2.2.1 ((min 4 (own.length + 1) : Nat) : Int) = (kidN own a.2.2.1 : Int) := by
    have := pick_lt (n := a.2.2.1) (m := ((min 4 (own.length + 1) : Nat) : Int)) (by omega)
    unfold kidN
    omega
  rw [hkn]
  have hk := kidN_le own a.2.2.1
  refine draw_i fun w5 he5 _ _ => ?_
  have he05 := he03.trans he5
  have h5 := h.ext he05
  have hb15 := hb13.ext he5
  refine boxF (l := .int .u8) 1 (a.2.1.toNat : Int) hb15 (by rfl) ?_
  refine ptr_i (boxE (l := .slc) 2 xo h5.box (by rfl) (by rfl) ?_)
  refine ptr_i (boxE (l := .slc) 2 xo h5.box (by rfl) (by rfl) ?_)
  have e3 : IntKind.wrap .i64 (((xo.2.1 : Nat) : Int) - (kidN own a.2.2.1 : Int)) = ((own.length - kidN own a.2.2.1 : Nat) : Int) := by rw [wrap_i64 (by omega) (by omega)]; omega
  rw [e3, Int.toNat_natCast]
  refine guard_i (by omega) ?_
  refine boxF (l := .str) 4 a.2.2.2.2 hb15 (by rfl) ?_
  have hsl := (h5.ro.sl).cut (l := own.length - kidN own a.2.2.1) (k := xo.2.1 - (own.length - kidN own a.2.2.1)) (m := xo.2.2) (z := 1) rfl (by omega) (by omega)
  rw [List.take_of_length_le (by rw [List.length_drop]; omega)] at hsl
  refine callW_of (own_u32 hsl (by omega)) ?_
  rintro _ w6 ⟨y, rfl, hoy, he6⟩
  refine ⟨y, rfl, ?_⟩
  have hb16 := hb15.ext he6
  refine ⟨fun l hl q hq => ?_, ?_⟩
  · simp only [List.mem_cons, List.not_mem_nil, or_false] at hl
    rcases hl with rfl | rfl <;> (simp only [List.mem_cons, List.not_mem_nil, or_false] at hq; subst hq)
    · exact boxC hb16 (o := 4) (by rfl) (by rfl)
    · exact boxC hb16 (o := 1) (by rfl) (by rfl)
  rw [tag_wrap]
  have he06 := he05.trans he6
  have hs1 := he1.size
  refine setP (pageP own a) y (((hb2.ext he3).ext he5).ext he6) rfl rfl ?_
  intro w7 hb7 hx7 hk7 hz7
  refine ⟨y, rfl, ?_, hx7 w he06 (by omega)⟩
  have h06 := he05.size
  have oc : Only (fun k => k = r2) w6 w7 := ⟨(hx7 w he06 (by omega)).os.trans he06.os.symm, (hx7 w he06 (by omega)).tape.trans he06.tape.symm, (hx7 w he06 (by omega)).output.trans he06.output.symm, by omega, fun k _ hk => hk7 k hk⟩
  have hs02 := he02.size
  have hs3 := he3.size
  have hs5 := he5.size
  exact (hoy.only oc (fun j hj e => by have := hoy.row j hj; have : j = r2 := e; omega)).lower (by omega)
def act0 : ActV := (0, 0, 0, 0, ByteArray.empty)
theorem light_calls {w : World} {A : Option Addr} {n c : Nat} {acts : List ActV} (h : Sli actE w A n acts) :
    Calls Tryz.prog 29 #[.slice A n c] w (Ret fun v w' => (v = .bool true ∧ n ≤ 60 ∧ (∀ a ∈ acts, a.2.2.2.2.size ≤ 600) ∨ v = .bool false) ∧ w' = w) := by
  apply calls29
  unfold S29
  have hl := h.len
  have hle := h.le
  refine loopW_i (fun y w' => ∃ i : Nat, i ≤ n ∧ y = ((i : Int), ()) ∧ w' = w ∧ ∀ a ∈ acts.take i, a.2.2.2.2.size ≤ 600) (fun y => (n - y.1).toNat) ⟨0, by omega, rfl, rfl, by simp⟩ ?_
  rintro _ w1 ⟨i, hi, rfl, rfl, hall⟩
  dsimp only
  by_cases hlt : i < n
  · refine splitW_t (decide_eq_true (by omega)) ?_
    have hil : i < acts.length := by omega
    have hai : acts[i]? = some acts[i] := List.getElem?_eq_getElem hil
    refine idx_f (l := .str) 4 (fun a : ActV => a.2.2.2.2) act0 h (fun _ => rfl) rfl (by omega) (by omega) ?_
    rw [Int.toNat_natCast]
    have hg : acts.getD i act0 = acts[i] := by rw [List.getD_eq_getElem?_getD, hai]; rfl
    rw [hg]
    refine splitW_i (fun hq => ⟨.inr rfl, rfl⟩) (fun hq => ?_)
    have hq := of_decide_eq_false hq
    refine ⟨⟨i + 1, by omega, by rw [wrap_i64 (by omega) (by omega)]; rfl, rfl, fun a ha => ?_⟩, by rw [wrap_i64 (by omega) (by omega)]; omega⟩
    rw [List.take_add_one, hai] at ha
    simp only [Option.toList_some, List.mem_append, List.mem_singleton] at ha
    rcases ha with e | rfl
    · exact hall a e
    · omega
  · refine splitW_f (decide_eq_false (by omega)) ?_
    rw [List.take_of_length_le (by omega)] at hall
    refine ⟨?_, rfl⟩
    by_cases h60 : n ≤ 60
    · exact .inl ⟨by rw [decide_eq_true (by omega)], h60, hall⟩
    · exact .inr (by rw [decide_eq_false (by omega)])
end Go.Proofs.YtjdmggaeagnolaaGreat.V
/- Law 13: what stays true of a run: plain. -/
set_option linter.unusedVariables false
set_option linter.unusedSimpArgs false
namespace Go.Proofs.YtjdmggaeagnolaaGreat.V
open Go Go.Proofs Go.RowKit Crc
theorem kids_le {S : Spa} (n : Nat) : (kidsP S.page n).length ≤ 1024 := pageR_kids.1
theorem cnt_small {S : Spa} {R : List Nat} (h : Good S R) {n : Nat} (hn : usedC S.sup.pages S.now n = true) : S.now.getD n 0 ≤ R.count n + S.N * 1024 := by
  obtain ⟨a1, a2, a3⟩ := usedC_iff.1 hn
  rw [h.well.sum n a1 a2]
  have : sumC S.N S.sup.pages S.page S.now n ≤ S.N * 1024 := by
    refine sum_le' S.N (fun m _ => ?_)
    unfold refC
    split
    · exact Nat.le_trans List.count_le_length (kids_le m)
    · omega
  omega
structure Inv (z : Int) (N P : Nat) (S : Spa) (own held mark : List Nat) (mk : Bool) (root i : Nat) : Prop where
  gr : Great S own held (if mk then some mark else none)
  rt : S.sup.root = root ∧ (root = 0 ∨ usedC S.sup.pages S.held root = true)
  gen : S.sup.gen ≤ 1 + i
  pl : S.dev.pen.length ≤ i
  pw : ∀ p ∈ S.dev.pen, 2 ≤ p.1 ∧ S.held.getD p.1.toNat 0 = 0
  lo : own.length ≤ i
  lh : held.length ≤ i
  lm : mark.length ≤ i
  sz : S.sup.size = z
  bl : S.sup.blocks = (N : Int)
  np : S.sup.pages.length = P
variable {z : Int} {N P : Nat} {S S' : Spa} {own held mark : List Nat} {mk : Bool} {root i : Nat}
theorem Inv.more (h : Inv z N P S own held mark mk root i) {j : Nat} (hij : i ≤ j) : Inv z N P S own held mark mk root j :=
  { h with gen := by have := h.gen; omega, pl := Nat.le_trans h.pl hij, lo := Nat.le_trans h.lo hij, lh := Nat.le_trans h.lh hij, lm := Nat.le_trans h.lm hij }
theorem Inv.n (h : Inv z N P S own held mark mk root i) : S.N = N := by unfold Spa.N; rw [h.bl]; omega
theorem Inv.put {n k : Nat} {p : Page} (h : Inv z N P S own held mark mk root i) (ho : PutOk S S' p n) (hg : Great S' (n :: own.take k) held (if mk then some mark else none)) (hpen : ∀ q ∈ S'.dev.pen, q ∈ S.dev.pen ∨ q.1 = (n : Int)) :
    Inv z N P S' (own.take k ++ [n]) held mark mk root (i + 1) := by
  refine ⟨hg.perm (List.perm_append_singleton n (own.take k)).symm, ?_, ?_, ?_, ?_, ?_, Nat.le_succ_of_le h.lh, Nat.le_succ_of_le h.lm, ?_, ?_, ?_⟩
  · rw [ho.sup, ho.held]; exact h.rt
  · rw [ho.sup]; have := h.gen; omega
  · rw [ho.pen]; have := h.pl; omega
  · intro q hq
    rw [ho.held]
    rcases hpen q hq with e | e
    · exact h.pw q e
    · have := ho.two
      refine ⟨by omega, ?_⟩
      rw [show q.1.toNat = n by omega]
      exact (isFree_iff.1 ho.free).2.1
  · have := h.lo
    rw [List.length_append, List.length_take, List.length_singleton]
    omega
  · rw [ho.sup]; exact h.sz
  · rw [ho.sup]; exact h.bl
  · rw [ho.sup]; exact h.np
/-- Only the counts have changed. -/
theorem Inv.now {c own' : List Nat} (h : Inv z N P S own held mark mk root i) (hg : Great { S with now := c } own' held (if mk then some mark else none)) (hl : own'.length ≤ i + 1) : Inv z N P { S with now := c } own' held mark mk root (i + 1) :=
  ⟨hg, h.rt, by have := h.gen; show S.sup.gen ≤ _; omega, Nat.le_succ_of_le h.pl, h.pw, hl, Nat.le_succ_of_le h.lh, Nat.le_succ_of_le h.lm, h.sz, h.bl, h.np⟩
theorem Inv.abort (h : Inv z N P S own held mark mk root i) : Inv z N P { S with now := S.held, mark := none } held held mark false root (i + 1) :=
  ⟨great_abort h.gr, h.rt, by have := h.gen; show S.sup.gen ≤ _; omega, Nat.le_succ_of_le h.pl, h.pw, Nat.le_succ_of_le h.lh, Nat.le_succ_of_le h.lh, Nat.le_succ_of_le h.lm, h.sz, h.bl, h.np⟩
theorem Inv.nomark (h : Inv z N P S own held mark false root i) : S.mark = none := (h.gr.mwell.none_iff).2 rfl
theorem Inv.marked (h : Inv z N P S own held mark true root i) : ∃ l, S.mark = some l := by
  cases hq : S.mark with
  | some l => exact ⟨l, rfl⟩
  | none => have := (h.gr.mwell.none_iff).1 hq; cases this
theorem Inv.mark_ (h : Inv z N P S own held mark false root i) : Inv z N P { S with mark := some S.now } own held own true root (i + 1) :=
  ⟨great_mark h.gr, h.rt, by have := h.gen; show S.sup.gen ≤ _; omega, Nat.le_succ_of_le h.pl, h.pw, Nat.le_succ_of_le h.lo, Nat.le_succ_of_le h.lh, Nat.le_succ_of_le h.lo, h.sz, h.bl, h.np⟩
theorem Inv.back (h : Inv z N P S own held mark true root i) {l : List Nat} (hm : S.mark = some l) : Inv z N P { S with now := l, mark := none } mark held mark false root (i + 1) :=
  ⟨great_back h.gr hm, h.rt, by have := h.gen; show S.sup.gen ≤ _; omega, Nat.le_succ_of_le h.pl, h.pw, Nat.le_succ_of_le h.lm, Nat.le_succ_of_le h.lh, Nat.le_succ_of_le h.lm, h.sz, h.bl, h.np⟩
theorem Inv.done (h : Inv z N P S own held mark true root i) : Inv z N P { S with mark := none } own held mark false root (i + 1) :=
  ⟨great_done h.gr, h.rt, by have := h.gen; show S.sup.gen ≤ _; omega, Nat.le_succ_of_le h.pl, h.pw, Nat.le_succ_of_le h.lo, Nat.le_succ_of_le h.lh, Nat.le_succ_of_le h.lm, h.sz, h.bl, h.np⟩
theorem Inv.commit (h : Inv z N P S own held mark mk root i) {rt : Nat} (hrt : rt = 0 ∨ rt ∈ own) (hc : ComOk S S' rt own) : Inv z N P S' own own mark false rt (i + 1) := by
  have hns : S.ns.length = S.sup.pages.length := by
    have := h.gr.room
    unfold Spa.ns
    rw [List.length_take]
    unfold Spa.freeN at this
    omega
  refine ⟨hc.great, ⟨by rw [hc.sup]; rfl, ?_⟩, by rw [hc.sup]; have := h.gen; show S.sup.gen + 1 ≤ _; omega, by rw [hc.pen]; exact Nat.zero_le _, (fun p hp => by rw [hc.pen] at hp; cases hp), Nat.le_succ_of_le h.lo, Nat.le_succ_of_le h.lo, Nat.le_succ_of_le h.lm, by rw [hc.sup]; exact h.sz, by rw [hc.sup]; exact h.bl, by rw [hc.sup]; exact hns.trans h.np⟩
  rcases hrt with e | e
  · exact .inl e
  · exact .inr (hc.great.hwell.root rt e)
theorem Inv.format {size : Int} {N : Nat} (hg : geoOK size (N : Int) = true) (hchk : chk (fmtS size N) = 0) : Inv size N (fmtN size N) (formatS (dev0 size (N : Int))) [] [] [] false 0 0 := by
  have e : (dev0 size (N : Int)).blocks.toNat = N := by show ((N : Int)).toNat = N; omega
  obtain ⟨g1, g2, g3⟩ := great_format (d := dev0 size (N : Int)) (devG0 hg) (by rw [e]; exact hchk)
  refine ⟨g2, ⟨rfl, .inl rfl⟩, Nat.le_refl _, by rw [g3]; exact Nat.le_refl _, (fun p hp => by rw [g3] at hp; cases hp), Nat.le_refl _, Nat.le_refl _, Nat.le_refl _, rfl, ?_, ?_⟩
  · show (((dev0 size (N : Int)).blocks.toNat : Nat) : Int) = _
    rw [e]
  · show (fmtP (fmtN size (dev0 size (N : Int)).blocks.toNat)).length = _
    rw [fmtP_length, e]
end Go.Proofs.YtjdmggaeagnolaaGreat.V
/- Law 13: an act, done. -/
set_option linter.unusedVariables false
set_option linter.unusedSimpArgs false
namespace Go.Proofs.YtjdmggaeagnolaaGreat.V
open Go Go.Proofs Go.RowKit Crc
def DoR (w0 : World) (r db : Nat) (z : Int) (N P i : Nat) (w : World) : Prop :=
  ∃ b S F xo xh xm own held mark mk root, RunX w0 w r db b S F xo xh xm own held mark mk root ∧ Inv z N P S own held mark mk root i
variable {w0 w w' : World} {r db b : Nat} {S : Spa} {F : Nat → Prop} {xo xh xm : SLC} {own held mark : List Nat} {mk : Bool} {root : Nat} {z : Int} {N P i : Nat}
theorem RunX.fresh {l : List Nat} {y : SLC} (h : RunX w0 w r db b S F xo xh xm own held mark mk root) (ho : Owni (numE .u32) 35 w' w.heap.size y.1 y.2.1 y.2.2 l) : RowN w' F r y l :=
  RowN.of (A := y.1) (n := y.2.1) (c := y.2.2) ho (fun k hk => h.sp.lt k hk) h.box.lt
theorem mark_run (h : RunX w0 w r db b S F xo xh xm own held mark mk root) (hi : Inv z N P S own held mark mk root i) (hi6 : i ≤ 100) (n : Int) :
    Calls Tryz.prog 71 #[.pointer (some ⟨r, 0, none⟩), .int .i64 n] w (Ret fun v w' => v = .int .i64 0 ∧ DoR w0 r db z N P (i + 1) w') := by
  have l1 := hi.lo
  have l2 := hi.lh
  have l3 := hi.lm
  apply calls71
  unfold S71
  refine ptr_i (boxE (l := .bool) 5 mk h.box (by rfl) (by rfl) ?_)
  cases mk with
  | false =>
    refine splitW_t (by rfl) ?_
    refine ptr_i (boxE (l := .slc) 2 xo h.box (by rfl) (by rfl) ?_)
    refine callW_of (own_u32 h.ro.sl (by have := h.ro.sl.len; omega)) ?_
    rintro _ w1 ⟨y, rfl, hoy, he1⟩
    refine ⟨y, rfl, ?_⟩
    have h1 := h.ext he1
    have hy := h.fresh hoy
    refine ptr_i (stE h1.box rfl (by simp [runV]) fun w2 hb2 o2 => ?_)
    refine ptr_i (stE hb2 rfl (by simp [runV]) fun w3 hb3 o3 => ?_)
    have h3 : RunX w0 w3 r db b S F xo xh y own held own true root := h1.set (Only.trans o2 o3 (fun j hj => .inl hj)) hb3 h1.ro h1.rh hy
    refine ptr_i (boxE (l := .ptr) 1 (some ⟨b, 0, none⟩) h3.box (by rfl) (by rfl) ?_)
    refine callW_of (sp_mark h3.sp hi.nomark) ?_
    rintro _ w4 ⟨rfl, hst⟩
    refine ⟨_, rfl, rfl, ?_⟩
    obtain ⟨F', h4⟩ := h3.step hst
    exact ⟨b, _, F', xo, xh, y, own, held, own, true, root, h4, hi.mark_⟩
  | true =>
    refine splitW_f (by rfl) ?_
    obtain ⟨l, hml⟩ := hi.marked
    refine splitW_i (fun _ => ?_) (fun _ => ?_)
    · refine ptr_i (boxE (l := .slc) 4 xm h.box (by rfl) (by rfl) ?_)
      refine callW_of (own_u32 h.rm.sl (by have := h.rm.sl.len; omega)) ?_
      rintro _ w1 ⟨y, rfl, hoy, he1⟩
      refine ⟨y, rfl, ?_⟩
      have h1 := h.ext he1
      have hy := h.fresh hoy
      refine ptr_i (stE h1.box rfl (by simp [runV]) fun w2 hb2 o2 => ?_)
      refine ptr_i (stE hb2 rfl (by simp [runV]) fun w3 hb3 o3 => ?_)
      have h3 : RunX w0 w3 r db b S F y xh xm mark held mark false root := h1.set (Only.trans o2 o3 (fun j hj => .inl hj)) hb3 hy h1.rh h1.rm
      refine ptr_i (boxE (l := .ptr) 1 (some ⟨b, 0, none⟩) h3.box (by rfl) (by rfl) ?_)
      refine callW_of (sp_back h3.sp hml) ?_
      rintro _ w4 ⟨rfl, hst⟩
      refine ⟨_, rfl, rfl, ?_⟩
      obtain ⟨F', h4⟩ := h3.step hst
      exact ⟨b, _, F', y, xh, xm, mark, held, mark, false, root, h4, hi.back hml⟩
    · refine ptr_i (stE h.box rfl (by simp [runV]) fun w3 hb3 o3 => ?_)
      have h3 : RunX w0 w3 r db b S F xo xh xm own held mark false root := h.set o3 hb3 h.ro h.rh h.rm
      refine ptr_i (boxE (l := .ptr) 1 (some ⟨b, 0, none⟩) h3.box (by rfl) (by rfl) ?_)
      refine callW_of (sp_done h3.sp hml) ?_
      rintro _ w4 ⟨rfl, hst⟩
      refine ⟨_, rfl, rfl, ?_⟩
      obtain ⟨F', h4⟩ := h3.step hst
      exact ⟨b, _, F', xo, xh, xm, own, held, mark, false, root, h4, hi.done⟩
/-- A number behind a copy of a row, put into the run. -/
theorem own_app (h : RunX w0 w r db b S F xo xh xm own held mark mk root) {n c : Nat} {A : Option Addr} {l : List Nat} {K : SLC → WP} {v : Nat} {rb : Nat} (hs : Sli (numE .u32) w A n l) (hn : n ≤ 1000) (hb : Blk w rb [.int .u32 (v : Int)] 35)
    (hK : ∀ y w2, RowN w2 F r y (l ++ [v]) → Ext w w2 → K y w2) :
    callW Tryz.prog 70 [(.slice A n c)] (.one (.one .slc)) (fun u22 => runW Tryz.prog (Builtin.append_ #[38, 38] 38 #[(.slice u22.1 u22.2.1 u22.2.2), (.slice (some (⟨rb, 0, none⟩ : Addr)) 1 1)]) .slc K) w := by
  refine callW_of (own_u32 hs (by omega)) ?_
  rintro _ w1 ⟨y, rfl, hoy, he1⟩
  refine ⟨y, rfl, ?_⟩
  have hyl := hoy.len
  have hl := hs.len
  refine app_one hoy he1.size (hb.ext he1) (by omega) ?_
  intro A' c' w2 ho2 hx2
  exact hK _ w2 (h.fresh (y := (A', y.2.1 + 1, c')) ho2) (hx2 w he1 (Nat.le_refl _))
theorem do_run (h : RunX w0 w r db b S F xo xh xm own held mark mk root) (hi : Inv z N P S own held mark mk root i) (hi6 : i ≤ 100) (hN : N ≤ 40) {a : ActV} (ha : actQ a) (hd : a.2.2.2.2.size ≤ 600) :
    Calls Tryz.prog 31 #[.pointer (some ⟨r, 0, none⟩), .agg (actE.f a).toArray] w (Ret fun v w' => ∃ (n : Nat) (e : Int), v = .tuple #[.int .u32 (n : Int), .int .i64 e] ∧ (e = 0 ∨ e = 3 ∨ e = 9) ∧ DoR w0 r db z N P (i + 1) w') := by
  have l1 := hi.lo
  have l2 := hi.lh
  have l3 := hi.lm
  have hpl := hi.pl
  have hgen := hi.gen
  have hdim := hi.gr.good.dims
  have hNN := hi.n
  apply calls31
  unfold S31
  refine new_i fun r1 w1 hb1 he1 hr1 hz1 => ?_
  have hb1 : Blk w1 r1 (actE.f a) _ := hb1
  have h1 := h.ext he1
  refine boxF (l := .int .i64) 3 a.2.2.2.1 hb1 (by rfl) ?_
  refine callW_of (rpick_calls h1 ha.2.2.1 (by omega)) ?_
  rintro _ w2 ⟨rfl, hw2⟩
  refine ⟨_, rfl, ?_⟩
  rw [hw2]
  refine joinW_s (fun _ w' => Ext w0 w' ∧ DoR w0 r db z N P (i + 1) w') ?_ (fun J hJ => ?_)
  · rintro _ w' ⟨_, hd⟩
    exact ⟨0, 0, rfl, .inl rfl, hd⟩
  have same : DoR w0 r db z N P (i + 1) w1 := ⟨b, S, F, xo, xh, xm, own, held, mark, mk, root, h1, hi.more (Nat.le_succ i)⟩
  refine box0 (l := .int .i64) a.1 hb1 (by rfl) ?_
  refine callW_of (pick_calls w1 ha.1.1 ha.1.2 (by omega)) ?_
  rintro _ w2' ⟨rfl, hw2'⟩
  refine ⟨_, rfl, ?_⟩
  rw [hw2']
  refine joinW_s (fun y w' => y = (decide (pick a.1 10 = 0 ∨ pick a.1 10 = 1 ∨ pick a.1 10 = 2), ()) ∧ w' = w1) ?_ (fun J8 hJ8 => ?_)
  rotate_left
  · refine splitW_i (fun hq => ?_) (fun hq => splitW_i (fun hq2 => ?_) (fun hq2 => ?_))
    · rw [hq]; exact hJ8 _ _ ⟨by rw [decide_eq_true (.inl (beq_iff_eq.1 hq))], rfl⟩
    · rw [hq2]; exact hJ8 _ _ ⟨by rw [decide_eq_true (.inr (.inl (beq_iff_eq.1 hq2)))], rfl⟩
    · refine hJ8 _ _ ⟨?_, rfl⟩
      have a1 := beq_eq_false_iff_ne.1 hq
      have a2 := beq_eq_false_iff_ne.1 hq2
      refine Prod.ext ?_ rfl
      show (pick a.1 10 == 2) = _
      rw [Bool.eq_iff_iff, beq_iff_eq, decide_eq_true_iff]
      omega
  rintro _ w2'' ⟨rfl, hw2''⟩
  rw [hw2'']
  dsimp only
  have hpi := pickI_cases own a.2.2.2.1
  refine splitW_i (fun hq => ?_) (fun hq => ?_)
  · -- Put
    refine boxA (ls := [.int .i64, .int .u8, .int .i64, .int .i64, .str]) (a.1, (a.2.1.toNat : Int), a.2.2.1, a.2.2.2.1, a.2.2.2.2, ()) hb1 rfl ?_
    refine callW_of (rpage_calls h1 ha (by omega)) ?_
    rintro _ w3 ⟨y, rfl, hoy, he3⟩
    refine ⟨pgT (pageP own a) y, rfl, ?_⟩
    refine new_i fun r12 w4 hb4 he4 hr4 hz4 => ?_
    have hk := kidN_le own a.2.2.1
    have hsz3 := he3.size
    have hF4 := h1.sp.lt
    refine refill (vs := pgV (pageP own a) y) hb4 (by rfl) (pgV_one _ y) (by rfl) fun w5 hb5 hx5 hk5 hz5 => ?_
    have he15 : Ext w1 w5 := hx5 w1 (he3.trans he4) (by omega)
    refine draw_i fun w6 he6 _ _ => ?_
    have he16 := he15.trans he6
    have h6 := h1.ext he16
    have hb6 := hb5.ext he6
    have hoy6 : Owni (numE .u32) 35 w6 w1.heap.size y.1 y.2.1 y.2.2 (pageP own a).2.1 := ((hoy.ext he4).only (F := fun k => k = r12) ⟨(hx5 w3 he4 (by omega)).os.trans he4.os.symm, (hx5 w3 he4 (by omega)).tape.trans he4.tape.symm, (hx5 w3 he4 (by omega)).output.trans he4.output.symm, by omega, fun k _ hk => hk5 k hk⟩ (fun j hj e => by have := hoy.row_lt j hj; have : j = r12 := e; omega)).ext he6
    refine ptr_i (boxE (l := .ptr) 1 (some ⟨b, 0, none⟩) h6.box (by rfl) (by rfl) ?_)
    refine boxA (ls := pgLs) (pgT (pageP own a) y) hb6 rfl ?_
    have hkl : (pageP own a).2.1.length = kidN own a.2.2.1 := by unfold pageP; simp; omega
    have hperm : own.Perm ((pageP own a).2.1 ++ own.take (own.length - kidN own a.2.2.1)) := by
      have e : own = own.take (own.length - kidN own a.2.2.1) ++ (pageP own a).2.1 := (List.take_append_drop _ _).symm
      exact (List.Perm.of_eq e).trans List.perm_append_comm
    have hroom : S.room 0 = S.sup.size - 18 := by unfold Spa.room; rw [hdim.room, if_neg (by have := hdim.size; omega)]; omega
    refine callW_of (sp_put h6.sp (p := pageP own a) (hi.gr.perm hperm) (by omega) hoy6.sl (fun A hA hf => ?_) ?_ ?_ ?_) ?_
    · have := hoy6.row A.block (by rw [hA]; rfl)
      have := hF4 _ hf
      omega
    · show 3 ≤ (tagP a.2.1).toNat
      rw [tagP_nat]; omega
    · rw [hkl, hroom]; have := hdim.size; omega
    · show a.2.2.2.2.size ≤ _
      omega
    rintro _ w7 ⟨S', n, e, rfl, hput, hst⟩
    refine ⟨((n : Int), e, ()), rfl, ?_⟩
    obtain ⟨F', h7⟩ := h6.step hst
    dsimp only
    rcases hput with ⟨rfl, rfl, rfl, _⟩ | ⟨rfl, rfl, rfl, _⟩ | ⟨he, hP, hG, hpen⟩
    · refine splitW_f (by rfl) ⟨0, 3, rfl, .inr (.inl rfl), b, _, F', xo, xh, xm, own, held, mark, mk, root, h7, hi.more (Nat.le_succ i)⟩
    · refine splitW_f (by rfl) ⟨0, 9, rfl, .inr (.inr rfl), b, _, F', xo, xh, xm, own, held, mark, mk, root, h7, hi.more (Nat.le_succ i)⟩
    · rw [he]
      refine splitW_t (by rfl) ?_
      have hI := hi.put hP hG hpen
      obtain ⟨F2, g1, g2, g3⟩ := hst
      have hb7 : Blk w7 r12 (pgV (pageP own a) y) _ := hb6.only g3 (fun hf => by
        have := hF4 _ hf
        omega)
      refine draw_i fun w8 he8 _ _ => ?_
      have h8 := h7.ext he8
      have hb8 := hb7.ext he8
      refine ptr_i (boxE (l := .slc) 2 xo h8.box (by rfl) (by rfl) ?_)
      refine ptr_i (boxE (l := .slc) 2 xo h8.box (by rfl) (by rfl) ?_)
      refine boxF (l := .slc) 1 y hb8 (by rfl) ?_
      have hol := h8.ro.sl.len
      have hcap := h8.ro.cap
      have hyl := hoy.len
      have e3 : IntKind.wrap .i64 (((xo.2.1 : Nat) : Int) - ((y.2.1 : Nat) : Int)) = ((own.length - kidN own a.2.2.1 : Nat) : Int) := by rw [wrap_i64 (by omega) (by omega)]; omega
      rw [e3, Int.toNat_natCast]
      refine guard_i (by omega) ?_
      have hsl := (h8.ro.sl).cut0 (k := own.length - kidN own a.2.2.1) (m := xo.2.2) (z := 1) rfl (by omega) (by omega)
      have fin : ∀ {y2 : SLC} {w9 : World}, RowN w9 F' r y2 (own.take (own.length - kidN own a.2.2.1) ++ [n]) → Ext w8 w9 → (ptrW (some ⟨r, 0, none⟩) fun p25 : Addr => stW (p25.add 2) (.slice y2.1 y2.2.1 y2.2.2) fun w' => ∃ (n' : Nat) (e' : Int), Value.tuple #[.int .u32 (n : Int), .int .i64 0] = .tuple #[.int .u32 (n' : Int), .int .i64 e'] ∧ (e' = 0 ∨ e' = 3 ∨ e' = 9) ∧ DoR w0 r db z N P (i + 1) w') w9 := by
        intro y2 w9 hr9 he9
        have h9 := h8.ext he9
        refine ptr_i (stE h9.box rfl (by simp [runV]) fun w10 hb10 o10 => ?_)
        exact ⟨n, 0, rfl, .inl rfl, b, S', F', y2, xh, xm, _, held, mark, mk, root, h9.set o10 hb10 hr9 h9.rh h9.rm, hI⟩
      have hold : ∀ {wx : World}, Ext w8 wx → HL wx [((⟨r12, 0, none⟩ : Addr).add 1, .slice y.1 y.2.1 y.2.2)] ∧ HL wx [((⟨r, 0, none⟩ : Addr).add 2, .slice xo.1 xo.2.1 xo.2.2)] := fun hx => ⟨held1F (hb8.ext hx) (by rfl), held1F (h8.box.ext hx) (by rfl)⟩
      refine ⟨?_, ?_⟩
      · refine callW_of (own_u32 hsl (by omega)) ?_
        rintro _ w9 ⟨y9, rfl, ho9, he9⟩
        refine ⟨y9, rfl, ?_⟩
        refine new_i fun r23 w10 hb10 he10 _ _ => ?_
        refine h3_i (hold (he9.trans he10)).1 (hold (he9.trans he10)).2 (hold (he9.trans he10)).2 ?_
        have h9l := ho9.len
        have htl : (own.take (own.length - kidN own a.2.2.1)).length ≤ 100 := by rw [List.length_take]; omega
        refine app_one (ho9.ext he10) (he9.trans he10).size (by exact hb10) (by omega) ?_
        intro A' c' w11 ho11 hx11
        exact fin (y2 := (A', y9.2.1 + 1, c')) (h8.fresh (y := (A', y9.2.1 + 1, c')) ho11) (hx11 w8 (he9.trans he10) (Nat.le_refl _))
      · refine new_i fun r26 w9 hb9 he9 _ _ => ?_
        refine h3_i (hold he9).1 (hold he9).2 (hold he9).2 ?_
        have htl : (own.take (own.length - kidN own a.2.2.1)).length ≤ 100 := by rw [List.length_take]; omega
        refine own_app (h8.ext he9) (hsl.ext he9) (by omega) (by exact hb9) ?_
        intro y2 w10 hr10 he10
        exact fin hr10 (he9.trans he10)
  refine splitW_i (fun hq4 => ?_) (fun hq4 => ?_)
  · -- Share
    refine splitW_i (fun hu => ?_) (fun hu => ?_)
    rotate_left
    · exact hJ _ _ ⟨h1.x, same⟩
    have hu := of_decide_eq_true hu
    obtain ⟨j, hj, hjl⟩ : ∃ j : Nat, pickI own a.2.2.2.1 = (j : Int) ∧ j < own.length := by
      rcases hpi with e | e
      · omega
      · exact e
    rw [hj]
    have hxl := h1.ro.sl.len
    have hmem : own.getD j 0 ∈ own := by rw [List.getD_eq_getElem?_getD, List.getElem?_eq_getElem hjl]; exact List.getElem_mem _
    have hused := hi.gr.good.well.root _ hmem
    have hlt := hi.gr.good.well.lt hused
    refine draw_i fun w3 he3 _ _ => ?_
    have h3 := h1.ext he3
    refine ptr_i (boxE (l := .ptr) 1 (some ⟨b, 0, none⟩) h3.box (by rfl) (by rfl) ?_)
    refine ptr_i (boxE (l := .slc) 2 xo h3.box (by rfl) (by rfl) ?_)
    refine idx_num h3.ro.sl (by omega) (by omega) ?_
    rw [Int.toNat_natCast]
    have hsm := cnt_small hi.gr.good hused
    have hcl : own.count (own.getD j 0) ≤ own.length := List.count_le_length
    have h65 : S.now.getD (own.getD j 0) 0 < 65535 := by rw [hNN] at hsm; omega
    refine callW_of (sp_share h3.sp hi.gr hused h65) ?_
    rintro _ w4 ⟨rfl, hG, hst⟩
    refine ⟨_, rfl, splitW_t (by rfl) ?_⟩
    obtain ⟨F', h4⟩ := h3.step hst
    have hI := hi.now (own' := own ++ [own.getD j 0]) (hG.perm (List.perm_append_singleton _ own).symm) (by rw [List.length_append, List.length_singleton]; omega)
    refine draw_i fun w5 he5 _ _ => ?_
    have h5 := h4.ext he5
    refine ptr_i (boxE (l := .slc) 2 xo h5.box (by rfl) (by rfl) ?_)
    refine ptr_i (boxE (l := .slc) 2 xo h5.box (by rfl) (by rfl) ?_)
    have fin : ∀ {y2 : SLC} {w9 : World}, RowN w9 F' r y2 (own ++ [own.getD j 0]) → Ext w5 w9 → (ptrW (some ⟨r, 0, none⟩) fun p25 : Addr => stW (p25.add 2) (.slice y2.1 y2.2.1 y2.2.2) fun w' => ∃ (n' : Nat) (e' : Int), Value.tuple #[.int .u32 (0 : Int), .int .i64 0] = .tuple #[.int .u32 (n' : Int), .int .i64 e'] ∧ (e' = 0 ∨ e' = 3 ∨ e' = 9) ∧ DoR w0 r db z N P (i + 1) w') w9 := by
      intro y2 w9 hr9 he9
      have h9 := h5.ext he9
      refine ptr_i (stE h9.box rfl (by simp [runV]) fun w10 hb10 o10 => ?_)
      exact ⟨0, 0, rfl, .inl rfl, b, _, F', y2, xh, xm, _, held, mark, mk, root, h9.set o10 hb10 hr9 h9.rh h9.rm, hI⟩
    have hx5 : own[j]? = some (own.getD j 0) := by rw [List.getD_eq_getElem?_getD, List.getElem?_eq_getElem hjl]; rfl
    obtain ⟨pa, hpa, hsp, hcl5⟩ := h5.ro.sl.at_ hx5
    have hcell : w5.cell? (pa.add (Int.toNat ((j : Nat) : Int) * 1)) = some (.int .u32 ((own.getD j 0 : Nat) : Int)) := by
      have := hcl5.1
      rw [add_zero] at this
      exact this
    refine guard_i (by omega) ⟨pa, hpa, _, hcell, ?_⟩
    have hold : ∀ {wx : World}, Ext w5 wx → HL wx [(pa.add (Int.toNat ((j : Nat) : Int) * 1), .int .u32 ((own.getD j 0 : Nat) : Int))] ∧ HL wx [((⟨r, 0, none⟩ : Addr).add 2, .slice xo.1 xo.2.1 xo.2.2)] := fun hx => ⟨fun q hq => by rw [List.mem_singleton.1 hq]; exact hx.cell hcell, held1F (h5.box.ext hx) (by rfl)⟩
    refine ⟨?_, ?_⟩
    · refine callW_of (own_u32 h5.ro.sl (by omega)) ?_
      rintro _ w9 ⟨y9, rfl, ho9, he9⟩
      refine ⟨y9, rfl, ?_⟩
      refine h2_i (hold he9).1 (hold he9).2 ?_
      refine new_i fun r23 w10 hb10 he10 _ _ => ?_
      refine h1_i (hold (he9.trans he10)).2 ?_
      have h9l := ho9.len
      refine app_one (ho9.ext he10) (he9.trans he10).size (by exact hb10) (by omega) ?_
      intro A' c' w11 ho11 hx11
      exact fin (y2 := (A', y9.2.1 + 1, c')) (h5.fresh (y := (A', y9.2.1 + 1, c')) ho11) (hx11 w5 (he9.trans he10) (Nat.le_refl _))
    · refine new_i fun r26 w9 hb9 he9 _ _ => ?_
      refine h1_i (hold he9).2 ?_
      refine callW_of (own_u32 (h5.ro.sl.ext he9) (by omega)) ?_
      rintro _ w10 ⟨y9, rfl, ho9, he10⟩
      refine ⟨y9, rfl, ?_⟩
      refine h2_i (hold (he9.trans he10)).1 (hold (he9.trans he10)).2 ?_
      have h9l := ho9.len
      refine app_one ho9 he10.size (by exact hb9.ext he10) (by omega) ?_
      intro A' c' w11 ho11 hx11
      exact fin (y2 := (A', y9.2.1 + 1, c')) ((h5.ext he9).fresh (y := (A', y9.2.1 + 1, c')) ho11) (he9.trans (hx11 w9 he10 (Nat.le_refl _)))
  refine splitW_i (fun hq5 => ?_) (fun hq5 => ?_)
  · -- Drop
    refine splitW_i (fun hu => ?_) (fun hu => ?_)
    rotate_left
    · exact hJ _ _ ⟨h1.x, same⟩
    have hu := of_decide_eq_true hu
    obtain ⟨j, hj, hjl⟩ : ∃ j : Nat, pickI own a.2.2.2.1 = (j : Int) ∧ j < own.length := by
      rcases hpi with e | e
      · omega
      · exact e
    rw [hj]
    have hxl := h1.ro.sl.len
    have hmem : own.getD j 0 ∈ own := by rw [List.getD_eq_getElem?_getD, List.getElem?_eq_getElem hjl]; exact List.getElem_mem _
    have hused := hi.gr.good.well.root _ hmem
    have hlt := hi.gr.good.well.lt hused
    have hgd : own.getD j 0 = own[j] := by rw [List.getD_eq_getElem?_getD, List.getElem?_eq_getElem hjl]; rfl
    have hperm : own.Perm (own.getD j 0 :: (own.take j ++ own.drop (j + 1))) := by
      have e : own = own.take j ++ own.getD j 0 :: own.drop (j + 1) := by rw [hgd, ← List.drop_eq_getElem_cons hjl, List.take_append_drop]
      exact (List.Perm.of_eq e).trans List.perm_middle
    refine draw_i fun w3 he3 _ _ => ?_
    have h3 := h1.ext he3
    refine ptr_i (boxE (l := .ptr) 1 (some ⟨b, 0, none⟩) h3.box (by rfl) (by rfl) ?_)
    refine ptr_i (boxE (l := .slc) 2 xo h3.box (by rfl) (by rfl) ?_)
    refine idx_num h3.ro.sl (by omega) (by omega) ?_
    rw [Int.toNat_natCast]
    refine callW_of (sp_drop h3.sp (hi.gr.perm hperm)) ?_
    rintro _ w4 ⟨rfl, c', hG, hst, _, _⟩
    refine ⟨_, rfl, ?_⟩
    obtain ⟨F', h4⟩ := h3.step hst
    have hI := hi.now (own' := own.take j ++ own.drop (j + 1)) hG (by rw [List.length_append, List.length_take, List.length_drop]; omega)
    refine draw_i fun w5 he5 _ _ => ?_
    have h5 := h4.ext he5
    have hcap := h5.ro.cap
    refine ptr_i (boxE (l := .slc) 2 xo h5.box (by rfl) (by rfl) ?_)
    refine guard_i (by omega) ?_
    refine ptr_i (boxE (l := .slc) 2 xo h5.box (by rfl) (by rfl) ?_)
    have e1 : IntKind.wrap .i64 (((j : Nat) : Int) + 1) = ((j + 1 : Nat) : Int) := by rw [wrap_i64 (by omega) (by omega)]; omega
    rw [e1, Int.toNat_natCast]
    refine guard_i (by omega) ?_
    have hs1 := (h5.ro.sl).cut0 (k := j) (m := xo.2.2) (z := 1) rfl (by omega) (by omega)
    have hs2 := (h5.ro.sl).cut (l := j + 1) (k := xo.2.1 - (j + 1)) (m := xo.2.2) (z := 1) rfl (by omega) (by omega)
    rw [List.take_of_length_le (by rw [List.length_drop]; omega)] at hs2
    refine callW_of (own_u32 hs1 (by omega)) ?_
    rintro _ w6 ⟨y6, rfl, ho6, he6⟩
    refine ⟨y6, rfl, ?_⟩
    refine h1_i (held1F (h5.box.ext he6) (by rfl)) ?_
    have h6l := ho6.len
    have htl : (own.take j).length ≤ 100 := by rw [List.length_take]; omega
    refine append_sli elem_u32 ho6 he6.size (hs2.ext he6) (by omega) (by omega) ?_
    intro A' c2 w7 ho7 hg7 _
    have he7 : Ext w5 w7 := he6.grown hg7.grown (fun q hq => ho6.row q hq)
    have h7 := h5.ext he7
    have hr7 : RowN w7 F' r (A', y6.2.1 + (xo.2.1 - (j + 1)), c2) (own.take j ++ own.drop (j + 1)) := h5.fresh (y := (A', y6.2.1 + (xo.2.1 - (j + 1)), c2)) ho7
    refine ptr_i (stE h7.box rfl (by simp [runV]) fun w8 hb8 o8 => ?_)
    exact ⟨0, 0, rfl, .inl rfl, b, _, F', _, xh, xm, _, held, mark, mk, root, h7.set o8 hb8 hr7 h7.rh h7.rm, hI⟩
  refine splitW_i (fun hq6 => ?_) (fun hq6 => ?_)
  · -- Commit
    refine joinW_s (fun y w' => ∃ rt : Nat, y = ((rt : Int), ()) ∧ (rt = 0 ∨ rt ∈ own) ∧ w' = w1) ?_ (fun J65 hJ65 => ?_)
    rotate_left
    · have z0 : J65 (0, ()) w1 := hJ65 _ _ ⟨0, rfl, .inl rfl, rfl⟩
      refine splitW_i (fun hu => ?_) (fun _ => z0)
      have hu := of_decide_eq_true hu
      obtain ⟨j, hj, hjl⟩ : ∃ j : Nat, pickI own a.2.2.2.1 = (j : Int) ∧ j < own.length := by
        rcases hpi with e | e
        · omega
        · exact e
      have hxl := h1.ro.sl.len
      have hmem : own.getD j 0 ∈ own := by rw [List.getD_eq_getElem?_getD, List.getElem?_eq_getElem hjl]; exact List.getElem_mem _
      refine boxF (l := .int .i64) 3 a.2.2.2.1 hb1 (by rfl) ?_
      refine splitW_i (fun _ => ?_) (fun _ => z0)
      rw [hj]
      refine ptr_i (boxE (l := .slc) 2 xo h1.box (by rfl) (by rfl) ?_)
      refine idx_num h1.ro.sl (by omega) (by omega) ?_
      rw [Int.toNat_natCast]
      exact hJ65 _ _ ⟨own.getD j 0, rfl, .inr hmem, rfl⟩
    rintro _ w3 ⟨rt, rfl, hrt, hw3⟩
    rw [hw3]
    dsimp only
    refine ptr_i (boxE (l := .ptr) 1 (some ⟨b, 0, none⟩) h1.box (by rfl) (by rfl) ?_)
    refine callW_of (sp_commit h1.sp hi.gr (root := rt) (hrt.imp id (fun e => hi.gr.good.well.root _ e)) (by omega) (by omega)) ?_
    rintro _ w4 ⟨rfl, hC, hst⟩
    refine ⟨_, rfl, splitW_t (by rfl) ?_⟩
    obtain ⟨F', h4⟩ := h1.step hst
    have hI := hi.commit hrt hC
    have hxl := h4.ro.sl.len
    refine ptr_i (boxE (l := .slc) 2 xo h4.box (by rfl) (by rfl) ?_)
    refine callW_of (own_u32 h4.ro.sl (by omega)) ?_
    rintro _ w5 ⟨y5, rfl, ho5, he5⟩
    refine ⟨y5, rfl, ?_⟩
    have h5 := h4.ext he5
    have hy := h4.fresh ho5
    refine ptr_i (stE h5.box rfl (by simp [runV]) fun w6 hb6 o6 => ?_)
    refine ptr_i (stE hb6 rfl (by simp [runV]) fun w7 hb7 o7 => ?_)
    refine ptr_i (stE hb7 rfl (by simp [runV]) fun w8 hb8 o8 => ?_)
    exact ⟨rt, 0, rfl, .inl rfl, b, _, F', xo, y5, xm, own, own, mark, false, rt, h5.set (Only.trans (Only.trans o6 o7 (fun j hj => .inl hj)) o8 (fun j hj => .inl hj)) hb8 h5.ro hy h5.rm, hI⟩
  refine splitW_i (fun hq7 => ?_) (fun hq7 => ?_)
  · -- Abort
    refine ptr_i (boxE (l := .ptr) 1 (some ⟨b, 0, none⟩) h1.box (by rfl) (by rfl) ?_)
    refine callW_of (sp_abort h1.sp) ?_
    rintro _ w4 ⟨rfl, hst⟩
    refine ⟨_, rfl, ?_⟩
    obtain ⟨F', h4⟩ := h1.step hst
    have hxl := h4.rh.sl.len
    refine ptr_i (boxE (l := .slc) 3 xh h4.box (by rfl) (by rfl) ?_)
    refine callW_of (own_u32 h4.rh.sl (by omega)) ?_
    rintro _ w5 ⟨y5, rfl, ho5, he5⟩
    refine ⟨y5, rfl, ?_⟩
    have h5 := h4.ext he5
    have hy := h4.fresh ho5
    refine ptr_i (stE h5.box rfl (by simp [runV]) fun w6 hb6 o6 => ?_)
    refine ptr_i (stE hb6 rfl (by simp [runV]) fun w7 hb7 o7 => ?_)
    exact ⟨0, 0, rfl, .inl rfl, b, _, F', y5, xh, xm, held, held, mark, false, root, h5.set (Only.trans o6 o7 (fun j hj => .inl hj)) hb7 hy h5.rh h5.rm, hi.abort⟩
  refine splitW_i (fun hq8 => ?_) (fun hq8 => ?_)
  · -- Mark
    refine boxF (l := .int .i64) 3 a.2.2.2.1 hb1 (by rfl) ?_
    refine callW_of (mark_run h1 hi hi6 a.2.2.2.1) ?_
    rintro _ w4 ⟨rfl, hd⟩
    exact ⟨_, rfl, 0, 0, rfl, .inl rfl, hd⟩
  refine splitW_i (fun hq9 => ?_) (fun hq9 => ?_)
  · -- Open
    refine ptr_i (boxE (l := .ptr) 0 (some ⟨db, 0, none⟩) h1.box (by rfl) (by rfl) ?_)
    refine callW_of (sp_open h1.sp hi.gr) ?_
    rintro _ w4 ⟨b', F', rfl, hS, he4, hb4, hF4⟩
    refine ⟨(some ⟨b', 0, none⟩, 0, ()), rfl, splitW_t (by rfl) ?_⟩
    have h4 := h1.ext he4
    have hxl := h4.rh.sl.len
    refine ptr_i (boxE (l := .slc) 3 xh h4.box (by rfl) (by rfl) ?_)
    refine callW_of (own_u32 h4.rh.sl (by omega)) ?_
    rintro _ w5 ⟨y5, rfl, ho5, he5⟩
    refine ⟨y5, rfl, ?_⟩
    have h5 := h4.ext he5
    have hy : RowN w5 F' r y5 held := RowN.of (A := y5.1) (n := y5.2.1) (c := y5.2.2) ho5 (fun k hk => hS.lt k hk) h4.box.lt
    refine ptr_i (stE h5.box rfl (by simp [runV]) fun w6 hb6 o6 => ?_)
    refine ptr_i (stE hb6 rfl (by simp [runV]) fun w7 hb7 o7 => ?_)
    refine ptr_i (stE hb7 rfl (by simp [runV]) fun w8 hb8 o8 => ?_)
    exact ⟨0, 0, rfl, .inl rfl, b', _, F', y5, xh, xm, held, held, mark, false, root, RunX.swap h1 (he4.trans he5) (hS.ext he5) hF4 (Only.trans (Only.trans o6 o7 (fun j hj => .inl hj)) o8 (fun j hj => .inl hj)) hb8 hy, hi.abort⟩
  exact hJ _ _ ⟨h1.x, same⟩
end Go.Proofs.YtjdmggaeagnolaaGreat.V
/- Spaces of which nothing is owned: plain. Leaves that are dropped. -/
set_option linter.unusedVariables false
set_option linter.unusedSimpArgs false
namespace Go.Proofs.YtjdmggaeagnolaaGreat.V
open Go Go.Proofs Go.RowKit Crc
theorem exists_max {U : Nat → Bool} (r : Nat → Nat) : ∀ N : Nat, (∃ n, n < N ∧ U n = true) → ∃ n, n < N ∧ U n = true ∧ ∀ m, m < N → U m = true → r m ≤ r n
  | 0, ⟨n, h, _⟩ => by omega
  | N + 1, h => by
    by_cases hN : ∃ n, n < N ∧ U n = true
    · obtain ⟨n, h1, h2, h3⟩ := exists_max r N hN
      by_cases hu : U N = true
      · by_cases hr : r N ≤ r n
        · refine ⟨n, by omega, h2, fun m hm hum => ?_⟩
          by_cases e : m = N
          · subst e; exact hr
          · exact h3 m (by omega) hum
        · refine ⟨N, by omega, hu, fun m hm hum => ?_⟩
          by_cases e : m = N
          · subst e; exact Nat.le_refl _
          · have := h3 m (by omega) hum; omega
      · refine ⟨n, by omega, h2, fun m hm hum => ?_⟩
        by_cases e : m = N
        · subst e; exact absurd hum hu
        · exact h3 m (by omega) hum
    · obtain ⟨n, h1, h2⟩ := h
      have e : n = N := by
        by_cases e : n < N
        · exact absurd ⟨n, e, h2⟩ hN
        · omega
      subst e
      refine ⟨n, by omega, h2, fun m hm hum => ?_⟩
      by_cases e : m = n
      · subst e; exact Nat.le_refl _
      · exact absurd ⟨m, by omega, hum⟩ hN
theorem well_none {N : Nat} {ps : List Nat} {pg : PgF} {c : List Nat} (h : WellC N ps pg c []) (n : Nat) : usedC ps c n = false := by
  cases hq : usedC ps c n with
  | false => rfl
  | true =>
    exfalso
    obtain ⟨r, hr⟩ := h.rank
    obtain ⟨m, m1, m2, m3⟩ := exists_max (U := usedC ps c) r N ⟨n, h.lt hq, hq⟩
    obtain ⟨a1, a2, a3⟩ := usedC_iff.1 m2
    have hs := h.sum m a1 a2
    rw [List.count_nil, Nat.zero_add] at hs
    have : ∃ k, k < N ∧ refC ps pg c m k ≠ 0 := by
      apply Classical.byContradiction
      intro hno
      have : sumC N ps pg c m = 0 := by
        unfold sumC
        rw [sum_congr (g := fun _ => 0) (fun k hk => by
          apply Classical.byContradiction
          intro hk0
          exact hno ⟨k, hk, hk0⟩)]
        exact sum_zeros N
      omega
    obtain ⟨k, hk, hk0⟩ := this
    unfold refC at hk0
    split at hk0
    · rename_i huk
      have hm : m ∈ kidsP pg k := List.count_pos_iff.1 (by omega)
      have := hr k huk m hm
      have := m3 k hk huk
      omega
    · exact hk0 rfl
theorem well_zero {N : Nat} {ps : List Nat} {pg : PgF} {c : List Nat} (h : WellC N ps pg c []) {n : Nat} (h2 : 2 ≤ n) (hp : n ∉ ps) : c.getD n 0 = 0 := by
  have := well_none h n
  cases hq : c.getD n 0 with
  | zero => rfl
  | succ k =>
    rw [usedC_iff.2 ⟨h2, hp, by omega⟩] at this
    cases this
theorem free_count {S : Spa} (h : Great S [] [] none) (hm : S.mark = none) : S.freeN + S.sup.pages.length + 2 = S.N := by
  have hP := h.heldOK.pgsOk h.good
  have hN := h.good.dims.n
  have hmem : ∀ n, n ∈ S.freeL ↔ 2 ≤ n ∧ n < S.N ∧ n ∉ S.sup.pages := by
    intro n
    rw [freeL_mem]
    constructor
    · rintro ⟨a1, a2, a3⟩
      refine ⟨a2, a1, fun e => ?_⟩
      have := (hP.at_ n e).2.2
      have := (isFree_iff.1 a3).1
      omega
    · rintro ⟨a1, a2, a3⟩
      refine ⟨a2, a1, isFree_iff.2 ⟨well_zero h.good.well a1 a3, well_zero h.hwell a1 a3, by rw [hm]; rfl⟩⟩
  have hnd : (0 :: 1 :: (S.sup.pages ++ S.freeL)).Nodup := by
    rw [List.nodup_cons, List.nodup_cons, List.nodup_append]
    refine ⟨?_, ?_, hP.nodup, freeL_nd S, ?_⟩
    · simp only [List.mem_cons, List.mem_append, not_or]
      exact ⟨by omega, fun e => by have := (hP.at_ 0 e).1; omega, fun e => by have := ((hmem 0).1 e).1; omega⟩
    · simp only [List.mem_append, not_or]
      exact ⟨fun e => by have := (hP.at_ 1 e).1; omega, fun e => by have := ((hmem 1).1 e).1; omega⟩
    · intro a ha b hb e
      subst e
      exact ((hmem a).1 hb).2.2 ha
  have h1 := nodup_sub hnd (b := List.range S.N) (fun x hx => by
    rw [List.mem_range]
    simp only [List.mem_cons, List.mem_append] at hx
    rcases hx with e | e | e | e
    · omega
    · omega
    · exact (hP.at_ x e).2.1
    · exact ((hmem x).1 e).2.1)
  have h2 := nodup_sub (List.nodup_range (n := S.N)) (b := 0 :: 1 :: (S.sup.pages ++ S.freeL)) (fun x hx => by
    have hx := List.mem_range.1 hx
    simp only [List.mem_cons, List.mem_append]
    by_cases e : x < 2
    · omega
    · by_cases e2 : x ∈ S.sup.pages
      · exact .inr (.inr (.inl e2))
      · exact .inr (.inr (.inr ((hmem x).2 ⟨by omega, hx, e2⟩))))
  rw [List.length_range] at h1 h2
  simp only [List.length_cons, List.length_append] at h1 h2
  unfold Spa.freeN
  omega
theorem drp_leaf {S : Spa} {R c' : List Nat} {n : Nat} (hg : Good S (n :: R)) (h1 : S.now.getD n 0 = 1) (hk : kidsP S.page n = []) (hD : Drp S.asked S.page S.now [n] c' 0) : c' = S.now.set n 0 := by
  have hu := hg.well.root n List.mem_cons_self
  rcases hD.inv with ⟨a1, _⟩ | ⟨a1, _⟩ | ⟨_, _, _, a1⟩ | ⟨_, _, _, a1, _⟩ | ⟨_, _, _, a1⟩
  · exact absurd h1 a1
  · exact absurd h1 a1
  · cases a1
  · exact absurd rfl a1
  · rw [hk] at a1
    rw [subL_used hg.well hu, h1] at a1
    cases a1
    rfl
/-- A leaf that was put, and is dropped: as it was. -/
theorem put_drop {S S' : Spa} {p : Page} {n : Nat} {c' : List Nat} (h : PutOk S S' p n) (hl : S.now.length = S.N) (hc : c' = S'.now.set n 0) : c' = S.now ∧ ({ S' with now := c' } : Spa).freeN = S.freeN := by
  have h0 := (isFree_iff.1 h.free).1
  have hn := h.lt
  have e : c' = S.now := by
    rw [hc, h.now, List.set_set]
    refine list_ext_getD (by rw [List.length_set]) (fun k => ?_)
    rw [getD_setN]
    split
    · rename_i hh
      rw [← hh.1]
      exact h0.symm
    · rfl
  refine ⟨e, ?_⟩
  subst e
  unfold Spa.freeN Spa.freeL Spa.isFree Spa.N
  show ((List.range S'.sup.blocks.toNat).filter fun n => decide (2 ≤ n) && (S.now.getD n 0 == 0 && S'.held.getD n 0 == 0 && cnt S'.mark n == 0)).length = _
  rw [h.sup, h.held, h.mark]
end Go.Proofs.YtjdmggaeagnolaaGreat.V
/- Law 13: the spaces that all begin with; the chapter's first example. -/
set_option linter.unusedVariables false
set_option linter.unusedSimpArgs false
namespace Go.Proofs.YtjdmggaeagnolaaGreat.V
open Go Go.Proofs Go.RowKit Crc
theorem made_calls (w : World) (size blocks : Int) : Calls Tryz.prog 8 #[.agg #[.int .i64 size, .int .i64 blocks]] w (Ret fun v w' => (∃ p, v = .tuple #[.pointer p, .pointer none] ∧ Ext w w') ∨
    (geoOK size blocks = true ∧ chk (fmtS size blocks.toNat) = 0 ∧ ∃ db b, v = .tuple #[.pointer (some ⟨db, 0, none⟩), .pointer (some ⟨b, 0, none⟩)] ∧ At w w' b db (formatS (dev0 size blocks)))) := by
  apply calls8
  unfold S8
  refine new_i fun r1 w1 hb1 he1 hr1 _ => ?_
  refine boxA (ls := [.int .i64, .int .i64]) (size, blocks, ()) hb1 rfl ?_
  refine callW_of (dnew_calls w1 size blocks) ?_
  rintro _ w2 (⟨hg, db, rfl, hd⟩ | ⟨hg, rfl, he2⟩)
  · refine ⟨(some ⟨db, 0, none⟩, 0, ()), rfl, ?_⟩
    refine callW_of (at_format (hd.pre he1) (devG0 hg) (by show ([] : List (Int × ByteArray)).length ≤ _; simp)) ?_
    rintro _ w3 (⟨hne, rfl, he3⟩ | ⟨hok, b, rfl, hat⟩)
    · exact ⟨(none, _, ()), rfl, splitW_t (bne_iff_ne.2 hne) (.inl ⟨_, rfl, he3⟩)⟩
    · refine ⟨(some ⟨b, 0, none⟩, 0, ()), rfl, splitW_f (by rfl) (.inr ⟨hg, ?_, db, b, rfl, hat⟩)⟩
      by_cases hc : chk (fmtS size blocks.toNat) = 0
      · exact hc
      · have : (formatD (dev0 size blocks)).2 = chk (fmtS size blocks.toNat) := by
          unfold formatD
          rw [if_pos (show chk (fmtS (dev0 size blocks).size (dev0 size blocks).blocks.toNat) ≠ 0 from hc)]
          rfl
        rw [this] at hok
        exact hok
  · refine ⟨(none, 2, ()), rfl, ?_⟩
    refine callW_of (format_nil w2) ?_
    rintro _ w3 ⟨rfl, hw3⟩
    rw [hw3]
    exact ⟨(none, 1, ()), rfl, splitW_t (by rfl) (.inl ⟨_, rfl, he1.trans he2⟩)⟩
/-- A run begins. -/
theorem begin_calls (w : World) (size blocks : Int) : Calls Tryz.prog 30 #[.agg #[.int .i64 size, .int .i64 blocks]] w (Ret fun v w' => (v = .pointer none ∧ Ext w w') ∨
    (geoOK size blocks = true ∧ chk (fmtS size blocks.toNat) = 0 ∧ ∃ r db b F, v = .pointer (some ⟨r, 0, none⟩) ∧ RunX w w' r db b (formatS (dev0 size blocks)) F (none, 0, 0) (none, 0, 0) (none, 0, 0) [] [] [] false 0)) := by
  apply calls30
  unfold S30
  refine new_i fun r1 w1 hb1 he1 hr1 _ => ?_
  refine boxA (ls := [.int .i64, .int .i64]) (size, blocks, ()) hb1 rfl ?_
  refine callW_of (made_calls w1 size blocks) ?_
  rintro _ w2 (⟨p, rfl, he2⟩ | ⟨hg, hc, db, b, rfl, F, hS, hF, hx⟩)
  · exact ⟨(p, none, ()), rfl, splitW_t (by rfl) (.inl ⟨rfl, he1.trans he2⟩)⟩
  · refine ⟨(some ⟨db, 0, none⟩, some ⟨b, 0, none⟩, ()), rfl, splitW_f (by rfl) ?_⟩
    refine new_i fun r4 w4 hb4 he4 hr4 _ => ?_
    have h02 := he1.trans hx
    have hs := h02.size
    refine .inr ⟨hg, hc, r4, db, b, F, rfl, hb4, hS.ext he4, fun k hk => Nat.le_trans he1.size (hF k hk), ⟨by omega, fun hf => ?_⟩, RowN.nil _ _ _, RowN.nil _ _ _, RowN.nil _ _ _, h02.trans he4⟩
    have := hS.lt _ hf
    omega
theorem nat_of_geo {size blocks : Int} (h : geoOK size blocks = true) : ∃ N : Nat, blocks = (N : Int) := by
  obtain ⟨g1, g2, g3, g4, g5⟩ := geo_dims h
  exact ⟨blocks.toNat, by omega⟩
def S0 : Spa := formatS (dev0 128 12)
theorem geo0 : geoOK 128 12 = true := by decide
theorem fmtN0 : fmtN 128 12 = 1 := by decide
theorem chk0 : chk (fmtS 128 12) = 0 := by
  have h := chk_fmt (size := 128) (N := 12) geo0
  rw [h, fmtN0]
  decide
theorem s0_great : Great S0 [] [] none ∧ S0.dev.pen = [] := (great_format (devG0 geo0) chk0).2
theorem s0_sup : S0.sup = fmtS 128 12 := rfl
theorem s0_pages : S0.sup.pages = [2] := by rw [s0_sup]; show fmtP (fmtN 128 12) = [2]; rw [fmtN0]; rfl
theorem s0_room (k : Int) : S0.room k = if k < 0 ∨ k > 27 then 0 else 110 - 4 * k := by
  unfold Spa.room
  rw [s0_sup]
  have : roomOf (fmtS 128 12).size - 2 = 110 := by decide
  rw [this]
  rfl
theorem s0_freeL : S0.freeL = [3, 4, 5, 6, 7, 8, 9, 10, 11] := by
  unfold Spa.freeL Spa.isFree Spa.N
  show ((List.range (Int.toNat 12)).filter fun n => decide (2 ≤ n) && ((fmtC 12 (fmtN 128 12)).getD n 0 == 0 && (fmtC 12 (fmtN 128 12)).getD n 0 == 0 && cnt none n == 0)) = _
  rw [fmtN0]
  decide
theorem small_calls (w : World) : Calls Tryz.prog 9 #[] w (Ret fun v w' => v = .agg #[.int .i64 128, .int .i64 12] ∧ Ext w w') := by
  apply calls9
  unfold S9
  refine new_i fun r1 w1 hb1 he1 hr1 _ => ?_
  refine refill (vs := [.int .i64 128, .int .i64 12]) hb1 (by rfl) (fun v hv => by
    simp only [List.mem_cons, List.not_mem_nil, or_false] at hv
    rcases hv with rfl | rfl <;> rfl) (by rfl) (fun w' hb' hx hs hz => ?_)
  refine boxA (ls := [.int .i64, .int .i64]) (128, 12, ()) hb' rfl ⟨rfl, hx w he1 (by omega)⟩
theorem madeS_calls (w : World) : Calls Tryz.prog 8 #[.agg #[.int .i64 128, .int .i64 12]] w (Ret fun v w' => ∃ db b F, v = .tuple #[.pointer (some ⟨db, 0, none⟩), .pointer (some ⟨b, 0, none⟩)] ∧ SpAt w' b db S0 F ∧ (∀ k, F k → w.heap.size ≤ k) ∧ Ext w w') := by
  apply calls8
  unfold S8
  refine new_i fun r1 w1 hb1 he1 hr1 _ => ?_
  refine boxA (ls := [.int .i64, .int .i64]) (128, 12, ()) hb1 rfl ?_
  refine callW_of (dnew_calls w1 128 12) ?_
  rintro _ w2 (⟨_, db, rfl, hd⟩ | ⟨hg, _⟩)
  · refine ⟨(some ⟨db, 0, none⟩, 0, ()), rfl, ?_⟩
    refine callW_of (at_format (hd.pre he1) (devG0 geo0) (by show ([] : List (Int × ByteArray)).length ≤ _; simp)) ?_
    rintro _ w3 (⟨hne, _⟩ | ⟨_, b, rfl, F, h1, h2, h3⟩)
    · exact absurd (great_format (devG0 geo0) chk0).1 hne
    · exact ⟨(some ⟨b, 0, none⟩, 0, ()), rfl, splitW_f (by rfl) ⟨db, b, F, rfl, h1, h2, h3⟩⟩
  · rw [geo0] at hg; cases hg
/-! ### SamePages -/
theorem same32_calls {w : World} {A A2 : Option Addr} {n c n2 c2 : Nat} {xs ys : List Nat} (h : Sli (numE .u32) w A n xs) (h2 : Sli (numE .u32) w A2 n2 ys) :
    Calls Tryz.prog 77 #[.slice A n c, .slice A2 n2 c2] w (Ret fun v w' => v = .bool (decide (xs = ys)) ∧ Ext w w') := by
  apply calls77
  unfold S77
  have l1 := h.len
  have l2 := h2.len
  have hle := h.le
  refine splitW_i (fun hq => ?_) (fun hq => ?_)
  · have hq := bne_iff_ne.1 hq
    refine ⟨?_, Ext.refl w⟩
    rw [decide_eq_false]
    rintro rfl
    omega
  have hq := bne_eq_false_iff_eq.1 hq
  refine loopW_i (fun y w' => ∃ i : Nat, i ≤ n ∧ y = ((i : Int), ()) ∧ Ext w w' ∧ ∀ j, j < i → xs.getD j 0 = ys.getD j 0) (fun y => (n - y.1).toNat) ⟨0, by omega, rfl, Ext.refl w, fun j hj => by omega⟩ ?_
  rintro _ w1 ⟨i, hi, rfl, he1, hall⟩
  dsimp only
  by_cases hlt : i < n
  · refine splitW_t (decide_eq_true (by omega)) ?_
    refine draw_i fun w2 he2 _ _ => ?_
    have he := he1.trans he2
    refine idx_num (h.ext he) (by omega) (by omega) ?_
    refine idx_num (h2.ext he) (by omega) (by omega) ?_
    rw [Int.toNat_natCast]
    refine splitW_i (fun hne => ?_) (fun hee => ?_)
    · have hne := bne_iff_ne.1 hne
      refine ⟨?_, he⟩
      rw [decide_eq_false]
      rintro rfl
      exact hne rfl
    · have hee := bne_eq_false_iff_eq.1 hee
      refine ⟨⟨i + 1, by omega, by rw [wrap_i64 (by omega) (by omega)]; rfl, he, fun j hj => ?_⟩, by rw [wrap_i64 (by omega) (by omega)]; omega⟩
      by_cases e : j = i
      · subst e; omega
      · exact hall j (by omega)
  · refine splitW_f (decide_eq_false (by omega)) ⟨?_, he1⟩
    rw [decide_eq_true]
    exact list_ext_getD (by omega) (fun k => by
      by_cases hk : k < i
      · exact hall k hk
      · rw [List.getD_eq_getElem?_getD, List.getD_eq_getElem?_getD, List.getElem?_eq_none (by omega), List.getElem?_eq_none (by omega)])
def pgEq (p q : Page) : Bool := decide (p.1 = q.1) && (decide (B p.2.2 = B q.2.2) && decide (p.2.1 = q.2.1))
theorem pgEq_self (p : Page) : pgEq p p = true := by simp [pgEq]
theorem samepages_calls {w : World} {p q : Page} {x y : SLC} (h : Sli (numE .u32) w x.1 x.2.1 p.2.1) (h2 : Sli (numE .u32) w y.1 y.2.1 q.2.1) :
    Calls Tryz.prog 36 #[.agg (pgV p x).toArray, .agg (pgV q y).toArray] w (Ret fun v w' => v = .bool (pgEq p q) ∧ Ext w w') := by
  apply calls36
  unfold S36 pgEq
  refine new_i fun r1 w1 hb1 he1 hr1 _ => ?_
  refine new_i fun r2 w2 hb2 he2 hr2 _ => ?_
  have hb1 := hb1.ext he2
  have he := he1.trans he2
  refine box0 (l := .int .u8) (p.1.toNat : Int) hb1 (by rfl) ?_
  refine box0 (l := .int .u8) (q.1.toNat : Int) hb2 (by rfl) ?_
  refine splitW_i (fun hq => ?_) (fun hq => ?_)
  rotate_left
  · have hq := beq_eq_false_iff_ne.1 hq
    refine ⟨?_, he⟩
    rw [decide_eq_false (fun e => hq (by rw [e])), Bool.false_and]
  have hq : p.1 = q.1 := UInt8.toNat_inj.1 (by have := beq_iff_eq.1 hq; omega)
  rw [decide_eq_true hq, Bool.true_and]
  refine boxF (l := .str) 2 p.2.2 hb1 (by rfl) ?_
  refine boxF (l := .str) 2 q.2.2 hb2 (by rfl) ?_
  rw [str_beq]
  refine splitW_i (fun hs => ?_) (fun hs => ?_)
  rotate_left
  · rw [hs, Bool.false_and]
    exact ⟨rfl, he⟩
  rw [hs, Bool.true_and]
  refine boxF (l := .slc) 1 x hb1 (by rfl) ?_
  refine boxF (l := .slc) 1 y hb2 (by rfl) ?_
  refine callW_of (same32_calls (h.ext he) (h2.ext he)) ?_
  rintro _ w3 ⟨rfl, he3⟩
  exact ⟨_, rfl, rfl, he.trans he3⟩
theorem gen_at {w : World} {b db : Nat} {S : Spa} {F : Nat → Prop} (h : SpAt w b db S F) : Calls Tryz.prog 27 #[.pointer (some ⟨b, 0, none⟩)] w (Ret fun v w' => v = .int .u64 (S.sup.gen : Int) ∧ w' = w) := by
  obtain ⟨Fd, x, hb, hr, nb, nr, m, h⟩ := h
  exact gen_calls h
theorem PutR.ok {S S' : Spa} {p : Page} {R H : List Nat} {M : Option (List Nat)} {n : Nat} {e : Int} (h : PutR S S' p R H M n e) (hd : (p.2.2.size : Int) ≤ S.room p.2.1.length) (hf : S.sup.pages.length < S.freeN) : e = 0 ∧ PutOk S S' p n ∧ Great S' (n :: R) H M ∧ ∀ q ∈ S'.dev.pen, q ∈ S.dev.pen ∨ q.1 = (n : Int) := by
  rcases h with ⟨_, _, _, h⟩ | ⟨_, _, _, h⟩ | h
  · omega
  · omega
  · exact h
theorem lives_calls (w : World) : Calls Tryz.prog 7 #[] w (Ret fun v w' => v = .bool true ∧ Ext w w') := by
  apply calls7
  unfold S7
  obtain ⟨g0, pen0⟩ := s0_great
  have fr0 : S0.freeN = 9 := by unfold Spa.freeN; rw [s0_freeL]; rfl
  have pg0 : S0.sup.pages.length = 1 := by rw [s0_pages]; rfl
  refine callW_of (small_calls w) ?_
  rintro _ w1 ⟨rfl, he1⟩
  refine ⟨(128, 12, ()), rfl, ?_⟩
  refine callW_of (madeS_calls w1) ?_
  rintro _ w2 ⟨db, b, F0, rfl, h2, hF2, he2⟩
  refine ⟨(some ⟨db, 0, none⟩, some ⟨b, 0, none⟩, ()), rfl, splitW_f (by rfl) (splitW_f (by rfl) ?_)⟩
  dsimp only
  have he02 := he1.trans he2
  have hF0 : ∀ k, F0 k → w.heap.size ≤ k := fun k hk => Nat.le_trans he1.size (hF2 k hk)
  refine callW_of (sp_free h2) ?_
  rintro _ w3 ⟨rfl, he3⟩
  refine ⟨_, rfl, ?_⟩
  rw [fr0]
  have h3 := h2.ext he3
  -- a
  show callW _ _ [_, .agg (pgV ((4 : UInt8), [], ByteArray.mk #[120]) (none, 0, 0)).toArray] _ _ w3
  refine callW_of (sp_put (R := []) (p := ((4 : UInt8), [], ByteArray.mk #[120])) h3 g0 (by rw [pen0]; simp) (Sli.nil w3 none) (fun a ha => by cases ha) (by decide) (by rw [s0_room]; decide) (by decide)) ?_
  rintro _ w4 ⟨Sa, a, e, rfl, hp, F4, h4, hF4, hO4⟩
  obtain ⟨rfl, pa, ga, _⟩ := hp.ok (by rw [s0_room]; decide) (by omega)
  refine ⟨((a : Int), 0, ()), rfl, ?_⟩
  have hx4 : Ext w w4 := Only.ext (he02.trans he3) hO4 hF0
  have hF04 : ∀ k, F4 k → w.heap.size ≤ k := fun k hk => by
    rcases hF4 k hk with e | e
    · exact hF0 k e
    · exact Nat.le_trans (he02.trans he3).size e
  have ra : ∀ k, Sa.room k = S0.room k := fun k => by unfold Spa.room; rw [pa.sup]
  have fra : Sa.freeN = 8 := by have := congrArg List.length pa.freeL; unfold Spa.freeN at fr0 ⊢; rw [List.length_cons] at this; omega
  have pga : Sa.sup.pages.length = 1 := by rw [pa.sup, pg0]
  -- b
  refine new_i fun r5 w5 hb5 he5 hr5 hz5 => ?_
  have h5 := h4.ext he5
  show callW _ _ [_, .agg (pgV ((3 : UInt8), [a], ByteArray.empty) (some ⟨r5, 0, none⟩, 1, 1)).toArray] _ _ w5
  refine callW_of (sp_put (R := []) (p := ((3 : UInt8), [a], ByteArray.empty)) h5 ga (by have := pa.pen; rw [pen0] at this; simp at this; omega) (Sli.of_blk (E := numE .u32) (xs := [a]) (by exact hb5) rfl (by omega)) (fun q hq hf => ?_) (show 3 ≤ (3 : UInt8).toNat by decide) (by rw [ra, s0_room]; show ((1 : Nat) : Int) ≤ _; decide) (show ByteArray.empty.size ≤ 1000000000 by decide)) ?_
  · cases hq
    have := h4.lt _ hf
    dsimp only at this
    omega
  rintro _ w6 ⟨Sb, n, e, rfl, hp, F6, h6, hF6, hO6⟩
  obtain ⟨rfl, pb, gb, _⟩ := hp.ok (by rw [ra, s0_room]; show ((ByteArray.empty.size : Nat) : Int) ≤ (if ((1 : Nat) : Int) < 0 ∨ ((1 : Nat) : Int) > 27 then 0 else 110 - 4 * ((1 : Nat) : Int)); decide) (by omega)
  refine ⟨((n : Int), 0, ()), rfl, ?_⟩
  have hx5 := hx4.trans he5
  have hx6 : Ext w w6 := Only.ext hx5 hO6 hF04
  have hF06 : ∀ k, F6 k → w.heap.size ≤ k := fun k hk => by
    rcases hF6 k hk with e | e
    · exact hF04 k e
    · exact Nat.le_trans hx5.size e
  have frb : Sb.freeN = 7 := by have := congrArg List.length pb.freeL; unfold Spa.freeN at fra ⊢; rw [List.length_cons] at this; omega
  have hub : usedC Sb.sup.pages Sb.now n = true := gb.good.well.root n List.mem_cons_self
  have hgb : Sb.sup.gen = 1 := by rw [pb.sup, pa.sup]; rfl
  have hpenb : Sb.dev.pen.length = 2 := by rw [pb.pen, pa.pen, pen0]; rfl
  refine callW_of (sp_commit h6 gb (root := n) (.inr hub) (by omega) (by omega)) ?_
  rintro _ w7 ⟨rfl, hC, F7, h7, hF7, hO7⟩
  refine ⟨_, rfl, ?_⟩
  have hx7 : Ext w w7 := Only.ext hx6 hO7 hF06
  have hF07 : ∀ k, F7 k → w.heap.size ≤ k := fun k hk => by
    rcases hF7 k hk with e | e
    · exact hF06 k e
    · exact Nat.le_trans hx6.size e
  refine callW_of (sp_open h7 hC.great) ?_
  rintro _ w8 ⟨b8, F8, rfl, h8, he8, hb8, hF8⟩
  refine ⟨(some ⟨b8, 0, none⟩, 0, ()), rfl, ?_⟩
  have hx8 := hx7.trans he8
  have hF08 : ∀ k, F8 k → w.heap.size ≤ k := fun k hk => by
    rcases hF8 k hk with e | e
    · exact hF07 k e
    · exact Nat.le_trans hx7.size e
  refine splitW_f (by rfl) (splitW_f (by rfl) (splitW_f (by rfl) (splitW_f (by rfl) (splitW_f (by rfl) ?_))))
  dsimp only
  have eS : ({ (Sb.commit n).1 with now := (Sb.commit n).1.held, mark := none } : Spa) = (Sb.commit n).1 := by
    have e1 := hC.now
    have e2 := hC.held
    have e3 := hC.mark
    generalize (Sb.commit n).1 = X at *
    cases X
    simp only at e1 e2 e3
    subst e1 e3
    rw [e2]
  rw [eS] at h8
  have gC := hC.great
  have supC := hC.sup
  have hpC : (Sb.commit n).1.page n = (((3 : UInt8), [a], ByteArray.empty), 0) := (hC.page n hub).trans pb.page
  have penC := hC.pen
  generalize (Sb.commit n).1 = X at *
  have hrt : X.sup.root = n := by rw [supC]; rfl
  have hn32 : n < 4294967296 := by have := gb.good.dims.n; have := gb.good.well.lt hub; omega
  refine callW_of (sp_root h8) ?_
  rintro _ w9 ⟨rfl, hw9⟩
  refine ⟨_, rfl, ?_⟩
  rw [hw9, hrt]
  have hux : usedC X.sup.pages X.now n = true := gC.good.well.root n List.mem_cons_self
  have hgx : X.get n = (((3 : UInt8), [a], ByteArray.empty), 0) := by rw [(gC.good.get hux).1, hpC]
  refine callW_of (sp_get h8 hn32) ?_
  rintro _ w10 ⟨y, rfl, hoy, he10⟩
  rw [hgx] at hoy ⊢
  refine ⟨(pgT ((3 : UInt8), [a], ByteArray.empty) y, 0, ()), rfl, ?_⟩
  refine new_i fun r11 w11 hb11 he11 hr11 hz11 => ?_
  refine refill (vs := pgV ((3 : UInt8), [a], ByteArray.empty) y) hb11 (by rfl) (pgV_one _ y) (by rfl) fun w12 hb12 hx12 hk12 hz12 => ?_
  have he12 : Ext w10 w12 := hx12 w10 he11 (by omega)
  have hoy12 := hoy.ext he12
  have h12 := h8.ext (he10.trans he12)
  have hx12' := (hx8.trans he10).trans he12
  -- c
  have rX : ∀ k, X.room k = S0.room k := fun k => by unfold Spa.room; rw [supC]; show (if k < 0 ∨ k > (roomOf Sb.sup.size - 2) / 4 then 0 else roomOf Sb.sup.size - 2 - 4 * k) = _; rw [pb.sup, pa.sup]
  have hN12 : Sb.N = 12 := by unfold Spa.N; rw [pb.sup, pa.sup]; rfl
  have frX : X.sup.pages.length < X.freeN := by
    have h1 : X.sup.pages.length = 1 := by
      rw [supC]
      show Sb.ns.length = 1
      unfold Spa.ns
      rw [List.length_take]
      have : Sb.sup.pages.length = 1 := by rw [pb.sup, pga]
      unfold Spa.freeN at frb
      omega
    have h2 := nodup_sub (a := Sb.freeL.drop 1) (b := X.freeL) ((freeL_nd Sb).sublist (List.drop_sublist _ _)) (fun k hk => by
      have hkf := List.mem_of_mem_drop hk
      obtain ⟨a1, a2, a3⟩ := freeL_mem.1 hkf
      have hnow := hC.now
      have hheld := hC.held
      have hP := gb.heldOK.pgsOk gb.good
      have hg := comC_get gb.good.ok.now hP k
      have hmk := hC.mark
      obtain ⟨b1, b2, b3⟩ := isFree_iff.1 a3
      have hkp : k ∉ Sb.sup.pages := fun e => by have := (hP.at_ k e).2.2; omega
      have hkn : k ∉ Sb.ns := fun e => by
        have hns : Sb.ns = Sb.freeL.take 1 := by unfold Spa.ns; rw [show Sb.sup.pages.length = 1 by rw [pb.sup, pga]]
        rw [hns] at e
        have hnd := freeL_nd Sb
        rw [← List.take_append_drop 1 Sb.freeL, List.nodup_append] at hnd
        exact hnd.2.2 k e k hk rfl
      rw [if_neg hkp, if_neg hkn] at hg
      refine freeL_mem.2 ⟨?_, a2, isFree_iff.2 ⟨?_, ?_, ?_⟩⟩
      · unfold Spa.N; rw [supC]; exact a1
      · rw [hnow, hg]; exact b1
      · rw [hheld, hg]; exact b1
      · rw [hmk]; rfl)
    rw [List.length_drop] at h2
    unfold Spa.freeN at frb ⊢
    omega
  show callW _ _ [_, .agg (pgV ((4 : UInt8), [], ByteArray.empty) (none, 0, 0)).toArray] _ _ w12
  refine callW_of (sp_put (R := [n]) (p := ((4 : UInt8), [], ByteArray.empty)) h12 gC (by rw [penC]; simp) (Sli.nil w12 none) (fun a ha => by cases ha) (by decide) (by rw [rX, s0_room]; decide) (by decide)) ?_
  rintro _ w13 ⟨Sc, c, e, rfl, hp, F13, h13, hF13, hO13⟩
  obtain ⟨rfl, pc, gc, _⟩ := hp.ok (by rw [rX, s0_room]; decide) frX
  refine ⟨((c : Int), 0, ()), rfl, ?_⟩
  have hb8' : Blk w13 r11 (pgV ((3 : UInt8), [a], ByteArray.empty) y) _ := hb12.only hO13 (fun hf => by have := h8.lt _ hf; have := he10.size; omega)
  have hoy13 := hoy12.only hO13 (fun j hj hf => by have := h8.lt _ hf; have := hoy.row j hj; omega)
  have hx13 : Ext w w13 := Only.ext hx12' hO13 hF08
  have hF013 : ∀ k, F13 k → w.heap.size ≤ k := fun k hk => by
    rcases hF13 k hk with e | e
    · exact hF08 k e
    · exact Nat.le_trans hx12'.size e
  have hFlt13 : ∀ k, F13 k → k < w8.heap.size ∨ w12.heap.size ≤ k := fun k hk => by
    rcases hF13 k hk with e | e
    · exact .inl (h8.lt k e)
    · exact .inr e
  refine callW_of (sp_free h13) ?_
  rintro _ w14 ⟨rfl, he14⟩
  refine ⟨_, rfl, ?_⟩
  have h14 := h13.ext he14
  refine callW_of (sp_drop h14 (R := [n]) gc) ?_
  rintro _ w15 ⟨rfl, c', gd, ⟨F15, h15, hF15, hO15⟩, hD, _⟩
  refine ⟨_, rfl, ?_⟩
  refine splitW_t (by rfl) (splitW_t (by rfl) ?_)
  have hr11 : ¬ F13 r11 := fun hf => by
    have := he10.size
    rcases hFlt13 _ hf with e | e <;> omega
  have hb15 : Blk w15 r11 (pgV ((3 : UInt8), [a], ByteArray.empty) y) _ := (hb8'.ext he14).only hO15 hr11
  have hoy15 := (hoy13.ext he14).only hO15 (fun j hj hf => by
    have := hoy12.row_lt j hj
    have := hoy.row j hj
    have := hoy.row_lt j hj
    rcases hFlt13 _ hf with e | e <;> omega)
  refine boxA (ls := pgLs) (pgT ((3 : UInt8), [a], ByteArray.empty) y) hb15 rfl ?_
  have hx15 : Ext w w15 := Only.ext (hx13.trans he14) hO15 hF013
  refine new_i fun r16 w16 hb16 he16 hr16 hz16 => ?_
  show callW _ _ [.agg (pgV ((3 : UInt8), [a], ByteArray.empty) y).toArray, .agg (pgV ((3 : UInt8), [a], ByteArray.empty) (some ⟨r16, 0, none⟩, 1, 1)).toArray] _ _ w16
  refine callW_of (samepages_calls (hoy15.ext he16).sl (Sli.of_blk (E := numE .u32) (xs := [a]) (by exact hb16) rfl (show 1 ≤ 9223372036854775807 by omega))) ?_
  rintro _ w17 ⟨rfl, he17⟩
  refine ⟨_, rfl, ?_⟩
  rw [pgEq_self]
  refine splitW_t (by rfl) ?_
  have h17 := (h15.ext he16).ext he17
  refine callW_of (gen_at h17) ?_
  rintro _ w18 ⟨rfl, hw18⟩
  have hgx2 : Sc.sup.gen = 2 := by rw [pc.sup, supC]; show Sb.sup.gen + 1 = 2; omega
  refine ⟨_, rfl, ?_⟩
  rw [hw18]
  refine splitW_t (by show ((Sc.sup.gen : Nat) : Int) == 2; rw [hgx2]; rfl) (splitW_t (by rfl) (splitW_t (by rfl) ?_))
  refine callW_of (sp_free h17) ?_
  rintro _ w19 ⟨rfl, he19⟩
  refine ⟨_, rfl, ?_, ((hx15.trans he16).trans he17).trans he19⟩
  have hone : Sc.now.getD c 0 = 1 := by
    rw [pc.now, getD_setN, if_pos ⟨rfl, by rw [gC.good.ok.now]; exact pc.lt⟩]
  have hd := put_drop pc gC.good.ok.now (drp_leaf gc.good hone (by unfold kidsP; rw [pc.page]) hD)
  have hfc : X.freeN = Sc.freeN + 1 := by unfold Spa.freeN; rw [pc.freeL, List.length_cons]
  have hle := freeN_le Sc
  have hNc := gc.good.dims.n
  rw [hd.2, wrap_i64 (by omega) (by omega), hfc]
  have : (((Sc.freeN + 1 : Nat) : Int) == (Sc.freeN : Int) + 1) = true := beq_iff_eq.2 (by omega)
  rw [this]
end Go.Proofs.YtjdmggaeagnolaaGreat.V
/- Law 13: SpaceAudit. -/
set_option linter.unusedVariables false
set_option linter.unusedSimpArgs false
namespace Go.Proofs.YtjdmggaeagnolaaGreat.V
open Go Go.Proofs Go.RowKit Crc
def actT (a : ActV) : Int × Int × Int × Int × ByteArray × Unit := (a.1, (a.2.1.toNat : Int), a.2.2.1, a.2.2.2.1, a.2.2.2.2, ())
abbrev actLs : List Lf := [.int .i64, .int .u8, .int .i64, .int .i64, .str]
def usedL (c : List Nat) (i : Nat) : List Nat := (List.range i).filter fun k => decide (0 < c.getD k 0)
theorem usedL_succ (c : List Nat) (i : Nat) : (usedL c (i + 1)).length = (usedL c i).length + if 0 < c.getD i 0 then 1 else 0 := by
  unfold usedL
  rw [List.range_succ, List.filter_append, List.length_append]
  rw [List.filter_cons]
  by_cases h : 0 < c.getD i 0
  · rw [if_pos (decide_eq_true h), if_pos h]; rfl
  · rw [if_neg (by rw [decide_eq_true_iff]; exact h), if_neg h]; rfl
theorem used_free (S : Spa) : (usedL S.now S.N).length + S.freeN ≤ S.N := by
  have hnd : (usedL S.now S.N ++ S.freeL).Nodup := by
    rw [List.nodup_append]
    refine ⟨List.Nodup.sublist List.filter_sublist List.nodup_range, freeL_nd S, fun a ha b hb e => ?_⟩
    subst e
    have h1 := (List.mem_filter.1 ha).2
    have h2 := (isFree_iff.1 (freeL_mem.1 hb).2.2).1
    have h1 := of_decide_eq_true h1
    omega
  have := nodup_sub hnd (b := List.range S.N) (fun x hx => by
    rcases List.mem_append.1 hx with e | e
    · exact (List.mem_filter.1 e).1
    · exact List.mem_range.2 (freeL_mem.1 e).1)
  rw [List.length_range, List.length_append] at this
  exact this
theorem light_bounds {size blocks : Int} (h : lightGeo size blocks = true) (hg : geoOK size blocks = true) : size ≤ 512 ∧ blocks ≤ 40 := by
  obtain ⟨g1, g2, g3, g4, g5⟩ := geo_dims hg
  unfold lightGeo at h
  rw [if_neg (by omega)] at h
  exact of_decide_eq_true h
theorem audit_law {w : World} {size blocks : Int} {A : Option Addr} {n c : Nat} {acts : List ActV} (ha : Sli actE w A n acts) (hq : ∀ a ∈ acts, actQ a) :
    Calls Tryz.prog 6 #[.agg #[.int .i64 size, .int .i64 blocks], .slice A n c] w (Ret fun v w' => v = .bool true ∧ Ext w w') := by
  apply calls6
  unfold S6
  have hal := ha.len
  refine new_i fun r1 w1 hb1 he1 hr1 hz1 => ?_
  refine callW_of (lives_calls w1) ?_
  rintro _ w2 ⟨rfl, he2⟩
  refine ⟨_, rfl, splitW_f (by rfl) ?_⟩
  have hb2 := hb1.ext he2
  have he02 := he1.trans he2
  refine boxA (ls := [.int .i64, .int .i64]) (size, blocks, ()) hb2 rfl ?_
  refine callW_of (lightgeo_calls w2 size blocks) ?_
  rintro _ w3 ⟨rfl, he3⟩
  refine ⟨_, rfl, ?_⟩
  have he03 := he02.trans he3
  refine splitW_i (fun _ => ⟨rfl, he03⟩) (fun hlg => ?_)
  refine callW_of (light_calls (ha.ext he03)) ?_
  rintro v w4 ⟨hv, hw4⟩
  obtain ⟨q, rfl, hql⟩ : ∃ q : Bool, v = .bool q ∧ (q = true → n ≤ 60 ∧ ∀ a ∈ acts, a.2.2.2.2.size ≤ 600) := by
    rcases hv with ⟨e, h1, h2⟩ | e
    · exact ⟨true, e, fun _ => ⟨h1, h2⟩⟩
    · exact ⟨false, e, fun h => by cases h⟩
  refine ⟨q, rfl, ?_⟩
  rw [hw4]
  refine splitW_i (fun _ => ⟨rfl, he03⟩) (fun hqt => ?_)
  have hqt : q = true := by cases q <;> simp_all
  obtain ⟨hn60, h600⟩ := hql hqt
  have hb3 := hb2.ext he3
  refine boxA (ls := [.int .i64, .int .i64]) (size, blocks, ()) hb3 rfl ?_
  refine callW_of (begin_calls w3 size blocks) ?_
  rintro v w5 hv
  obtain ⟨p, rfl, he5, hp⟩ : ∃ p : Option Addr, v = .pointer p ∧ Ext w3 w5 ∧ (p = none ∨ (geoOK size blocks = true ∧ chk (fmtS size blocks.toNat) = 0 ∧ ∃ r db b F, p = some ⟨r, 0, none⟩ ∧ RunX w3 w5 r db b (formatS (dev0 size blocks)) F (none, 0, 0) (none, 0, 0) (none, 0, 0) [] [] [] false 0)) := by
    rcases hv with ⟨e, he⟩ | ⟨h1, h2, r, db, b, F, e, hR⟩
    · exact ⟨none, e, he, .inl rfl⟩
    · exact ⟨_, e, hR.x, .inr ⟨h1, h2, r, db, b, F, rfl, hR⟩⟩
  refine ⟨p, rfl, ?_⟩
  rcases hp with rfl | ⟨hgeo, hchk, r, db, b, F, rfl, hR⟩
  · exact splitW_t (by rfl) ⟨rfl, he03.trans he5⟩
  refine splitW_f (by rfl) ?_
  obtain ⟨N, rfl⟩ := nat_of_geo hgeo
  rw [Int.toNat_natCast] at hchk
  have hlb := light_bounds (by simpa using hlg) hgeo
  have hI0 := Inv.format hgeo hchk
  have hfree0 := free_count hI0.gr rfl
  have hN0 := hI0.n
  have hP0 := hI0.np
  generalize formatS (dev0 size (N : Int)) = S0' at *
  generalize fmtN size N = P at *
  refine ptr_i (boxE (l := .ptr) 1 (some ⟨b, 0, none⟩) hR.box (by rfl) (by rfl) ?_)
  refine callW_of (sp_free hR.sp) ?_
  rintro _ w6 ⟨rfl, he6⟩
  refine ⟨_, rfl, ?_⟩
  have hR6 := hR.ext he6
  have ha3 := ha.ext he03
  have hend : ∀ {w' : World}, Ext w3 w' → Ext w w' := fun h => he03.trans h
  refine loopW_i (fun y w' => ∃ i : Nat, i ≤ n ∧ y = ((i : Int), ()) ∧ DoR w3 r db size N P i w') (fun y => (n - y.1).toNat) ⟨0, by omega, rfl, b, _, F, _, _, _, [], [], [], false, 0, hR6, hI0⟩ ?_
  rintro _ w7 ⟨i, hi, rfl, b7, S7, F7, xo, xh, xm, own, held, mark, mk, root, h7, hI⟩
  dsimp only
  by_cases hlt : i < n
  · refine splitW_t (decide_eq_true (by omega)) ?_
    have hmem : acts.getD i act0 ∈ acts := by rw [List.getD_eq_getElem?_getD, List.getElem?_eq_getElem (by omega)]; exact List.getElem_mem _
    refine idx_A (E := actE) (ls := actLs) actT act0 (ha3.ext h7.x) (fun _ => rfl) rfl (by omega) (by omega) ?_
    rw [Int.toNat_natCast]
    refine callW_of (do_run h7 hI (by omega) (by omega) (hq _ hmem) (h600 _ hmem)) ?_
    rintro _ w8 ⟨m, e, rfl, he, b8, S8, F8, xo8, xh8, xm8, own8, held8, mark8, mk8, root8, h8, hI8⟩
    refine ⟨((m : Int), e, ()), rfl, ?_⟩
    refine joinW_s (fun _ w' => w' = w8) ?_ (fun J hJ => ?_)
    rotate_left
    · rcases he with rfl | rfl | rfl
      · exact splitW_f (by rfl) (hJ _ _ rfl)
      · exact splitW_t (by rfl) (splitW_t (by rfl) (splitW_f (by rfl) (hJ _ _ rfl)))
      · exact splitW_t (by rfl) (splitW_f (by rfl) (hJ _ _ rfl))
    rintro _ w9 hw9
    rw [hw9]
    refine draw_i fun w10 he10 _ _ => ?_
    have h10 := h8.ext he10
    refine ptr_i (boxE (l := .ptr) 1 (some ⟨b8, 0, none⟩) h10.box (by rfl) (by rfl) ?_)
    refine ptr_i (boxE (l := .slc) 2 xo8 h10.box (by rfl) (by rfl) ?_)
    refine callW_of (sp_audit h10.sp hI8.gr.good h10.ro.sl (fun a ha => (h10.ro.apart a ha).1)) ?_
    rintro _ w11 ⟨rfl, he11⟩
    refine ⟨_, rfl, splitW_f (by rfl) ?_⟩
    exact ⟨⟨i + 1, by omega, by rw [wrap_i64 (by omega) (by omega)]; rfl, b8, S8, F8, xo8, xh8, xm8, own8, held8, mark8, mk8, root8, h10.ext he11, hI8⟩, by rw [wrap_i64 (by omega) (by omega)]; omega⟩
  obtain rfl : i = n := by omega
  refine splitW_f (decide_eq_false (by omega)) ?_
  refine draw_i fun w8 he8 _ _ => ?_
  have h8 := h7.ext he8
  have hNN := hI.n
  have hdim := hI.gr.good.dims
  refine ptr_i (boxE (l := .ptr) 1 (some ⟨b7, 0, none⟩) h8.box (by rfl) (by rfl) ?_)
  refine ptr_i (boxE (l := .slc) 2 xo h8.box (by rfl) (by rfl) ?_)
  refine callW_of (sp_walk h8.sp hI.gr.good h8.ro.sl (fun a ha => (h8.ro.apart a ha).1)) ?_
  rintro _ w9 ⟨he9, A9, c9, rfl, ho9⟩
  refine ⟨((A9, S7.N, c9), 0, ()), rfl, splitW_f (by rfl) ?_⟩
  have h9 := h8.ext he9
  have hb9 := (hb3.ext h9.x)
  refine boxF (l := .int .i64) 1 (N : Int) hb9 (by rfl) ?_
  refine splitW_f (by rw [hNN]; exact bne_eq_false_iff_eq.2 rfl) ?_
  dsimp only
  have hnl := hI.gr.good.ok.now
  refine loopW_i (fun y w' => ∃ k : Nat, k ≤ S7.N ∧ y = (((usedL S7.now k).length : Int), (k : Int), ()) ∧ w' = w9) (fun y => (S7.N - y.2.1).toNat) ⟨0, by omega, rfl, rfl⟩ ?_
  rintro _ w10 ⟨k, hk, rfl, rfl⟩
  dsimp only
  have hul : (usedL S7.now k).length ≤ k := by
    have := List.length_filter_le (fun j => decide (0 < S7.now.getD j 0)) (List.range k)
    rw [List.length_range] at this
    exact this
  by_cases hkl : k < S7.N
  · refine splitW_t (decide_eq_true (by omega)) ?_
    refine idx_int ho9.sl (by omega) (by omega) ?_
    rw [Int.toNat_natCast]
    have hg : (allL S7.now).getD k 0 = ((S7.now.getD k 0 : Nat) : Int) := by
      unfold allL
      rw [List.getD_eq_getElem?_getD, List.getElem?_map, List.getD_eq_getElem?_getD, List.getElem?_eq_getElem (by omega)]
      rfl
    rw [hg]
    have hs := usedL_succ S7.now k
    have w1 : IntKind.wrap .i64 ((k : Int) + 1) = ((k + 1 : Nat) : Int) := by rw [wrap_i64 (by omega) (by omega)]; rfl
    refine splitW_i (fun hp => ?_) (fun hp => ?_)
    · have hp := of_decide_eq_true hp
      rw [if_pos (by omega)] at hs
      refine ⟨⟨k + 1, by omega, ?_, rfl⟩, by rw [w1]; omega⟩
      rw [w1, wrap_i64 (by omega) (by omega), hs]
      rfl
    · have hp := of_decide_eq_false hp
      rw [if_neg (by omega)] at hs
      exact ⟨⟨k + 1, by omega, by rw [w1, hs]; rfl, rfl⟩, by rw [w1]; omega⟩
  obtain rfl : k = S7.N := by omega
  refine splitW_f (decide_eq_false (by omega)) ?_
  refine draw_i fun w11 he11 _ _ => ?_
  have h11 := h9.ext he11
  refine ptr_i (boxE (l := .ptr) 1 (some ⟨b7, 0, none⟩) h11.box (by rfl) (by rfl) ?_)
  have hb11 := hb9.ext he11
  refine boxF (l := .int .i64) 1 (N : Int) hb11 (by rfl) ?_
  refine callW_of (sp_free h11.sp) ?_
  rintro _ w12 ⟨rfl, he12⟩
  refine ⟨_, rfl, ?_⟩
  refine h1_i (held1F (hb11.ext he12) (by rfl)) ?_
  have huf := used_free S7
  refine splitW_f (decide_eq_false ?_) ?_
  · rw [wrap_i64 (by omega) (by omega)]
    omega
  have h12 := h11.ext he12
  have hol := h12.ro.sl.len
  have hlo := hI.lo
  refine loopW_i (fun y w' => ∃ (k : Nat) (Sk : Spa) (Fk : Nat → Prop), k ≤ own.length ∧ y = ((k : Int), ()) ∧ RunX w3 w' r db b7 Sk Fk xo xh xm own held mark mk root ∧ Great Sk (own.drop k) held (if mk then some mark else none) ∧ Sk.sup = S7.sup ∧ Sk.dev = S7.dev) (fun y => (own.length - y.1).toNat) ⟨0, S7, F7, by omega, rfl, h12, hI.gr, rfl, rfl⟩ ?_
  rintro _ w13 ⟨k, Sk, Fk, hk, rfl, hRk, hGk, hsk, hdk⟩
  dsimp only
  refine ptr_i (boxE (l := .slc) 2 xo hRk.box (by rfl) (by rfl) ?_)
  by_cases hkl : k < own.length
  · refine splitW_t (decide_eq_true (by omega)) ?_
    refine draw_i fun w14 he14 _ _ => ?_
    have hR14 := hRk.ext he14
    refine ptr_i (boxE (l := .ptr) 1 (some ⟨b7, 0, none⟩) hR14.box (by rfl) (by rfl) ?_)
    refine ptr_i (boxE (l := .slc) 2 xo hR14.box (by rfl) (by rfl) ?_)
    refine idx_num hR14.ro.sl (by omega) (by omega) ?_
    rw [Int.toNat_natCast]
    have hdr : own.drop k = own.getD k 0 :: own.drop (k + 1) := by
      rw [List.drop_eq_getElem_cons hkl, List.getD_eq_getElem?_getD, List.getElem?_eq_getElem hkl]; rfl
    rw [hdr] at hGk
    refine callW_of (sp_drop hR14.sp hGk) ?_
    rintro _ w15 ⟨rfl, c', hG', hst, _, _⟩
    refine ⟨_, rfl, splitW_f (by rfl) ?_⟩
    obtain ⟨F', hR15⟩ := hR14.step hst
    exact ⟨⟨k + 1, _, F', by omega, by rw [wrap_i64 (by omega) (by omega)]; rfl, hR15, hG', hsk, hdk⟩, by rw [wrap_i64 (by omega) (by omega)]; omega⟩
  obtain rfl : k = own.length := by omega
  refine splitW_f (decide_eq_false (by omega)) ?_
  rw [List.drop_length] at hGk
  refine ptr_i (boxE (l := .ptr) 1 (some ⟨b7, 0, none⟩) hRk.box (by rfl) (by rfl) ?_)
  have hgen := hI.gen
  have hpl := hI.pl
  refine callW_of (sp_commit hRk.sp hGk (root := 0) (.inl rfl) (by rw [hsk]; omega) (by rw [hdk]; omega)) ?_
  rintro _ w14 ⟨rfl, hC, hst⟩
  refine ⟨_, rfl, splitW_t (by rfl) ?_⟩
  obtain ⟨F', hR14⟩ := hRk.step hst
  refine ptr_i (boxE (l := .ptr) 1 (some ⟨b7, 0, none⟩) hR14.box (by rfl) (by rfl) ?_)
  refine callW_of (sp_audit (x0 := (none, 0, 0)) hR14.sp hC.great.good (Sli.nil w14 none) (fun a ha => by cases ha)) ?_
  rintro _ w15 ⟨rfl, he15⟩
  refine ⟨_, rfl, splitW_t (by rfl) ?_⟩
  have hR15 := hR14.ext he15
  refine ptr_i (boxE (l := .ptr) 1 (some ⟨b7, 0, none⟩) hR15.box (by rfl) (by rfl) ?_)
  refine callW_of (sp_free hR15.sp) ?_
  rintro _ w16 ⟨rfl, he16⟩
  refine ⟨_, rfl, ?_, hend (hR15.x.trans he16)⟩
  have hfree1 := free_count hC.great hC.mark
  have hns : (Sk.commit 0).1.sup.pages.length = P := by
    rw [hC.sup]
    show Sk.ns.length = P
    have h1 := hGk.room
    have h2 := hI.np
    unfold Spa.ns
    rw [List.length_take]
    unfold Spa.freeN at h1
    rw [hsk] at h1 ⊢
    omega
  have hNk : (Sk.commit 0).1.N = N := by unfold Spa.N; rw [hC.sup]; show Sk.sup.blocks.toNat = N; rw [hsk]; exact hNN
  rw [hns, hNk] at hfree1
  have : (Sk.commit 0).1.freeN = S0'.freeN := by omega
  rw [this, beq_self_eq_true]
end Go.Proofs.YtjdmggaeagnolaaGreat.V
