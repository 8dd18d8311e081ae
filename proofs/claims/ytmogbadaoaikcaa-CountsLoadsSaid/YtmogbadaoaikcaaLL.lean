/- CountsLoads, as a contract. -/
import Derived.Test.YtmogbadaoaikcaaL
import Derived.Test.YtmogbadaoaikcaaKRef12
set_option linter.unusedVariables false
set_option linter.unusedSimpArgs false
namespace Go.Proofs.Ytmogbadaoaikcaa.V
open Go Go.Proofs Go.RowKit

theorem loadE_zero {size blocks : Int} {ps : List ByteArray} (h : loadE size blocks ps = 0) : geoOK size blocks = true ∧ fitsP blocks.toNat (perOf size) ps := by
  unfold loadE at h
  cases hok : geoOK size blocks with
  | false => rw [if_pos hok] at h; omega
  | true =>
    refine ⟨rfl, ?_⟩
    rw [if_neg (by rw [hok]; simp)] at h
    refine Decidable.byContradiction fun hn => ?_
    rw [if_pos hn] at h
    omega
theorem loads_calls {w : World} {size blocks : Int} {A : Option Addr} {np c : Nat} {ps : List ByteArray} (hp : Sli strE w A np ps) :
    Calls Try.prog 6 #[.agg #[.int .i64 size, .int .i64 blocks], .slice A np c] w (Ret fun v w' => v = .bool true ∧ Ext w w') := by
  apply calls6
  unfold S6
  apply newW_i
  have hb : Blk (w.alloc (.cells #[(.int .i64 size), (.int .i64 blocks)] 23)) w.heap.size [(.int .i64 size), (.int .i64 blocks)] 23 := Blk.new w _ _
  have he0 : Ext w (w.alloc (.cells #[(.int .i64 size), (.int .i64 blocks)] 23)) := (Ext.refl w).alloc _
  generalize w.alloc (.cells #[(.int .i64 size), (.int .i64 blocks)] 23) = w0 at hb he0 ⊢
  generalize hgb : w.heap.size = gb at hb ⊢
  refine callW_of (lives_calls w0) ?_
  rintro _ w1 ⟨rfl, he1⟩
  refine ⟨_, rfl, ?_⟩
  refine splitW_f (by rfl) ?_
  have rdg : ∀ {w' : World} {K : (Int × Int × Unit) → WP}, Ext w0 w' → K (size, blocks, ()) w' → ldAW [(.int .i64), (.int .i64)] ⟨gb, 0, none⟩ K w' := fun {w' K} he hk => ldA_blk (ls := [(.int .i64), (.int .i64)]) (x := (size, blocks, ())) (hb.ext he) rfl hk
  refine rdg he1 ?_
  refine callW_of (lightgeo_calls w1 size blocks) ?_
  rintro _ w2 ⟨rfl, he2⟩
  refine ⟨_, rfl, ?_⟩
  have he2 := he1.trans he2
  refine splitW_i (fun _ => ⟨rfl, he0.trans he2⟩) (fun hlight => ?_)
  refine callW_of (lighttexts_calls (hp.ext (he0.trans he2))) ?_
  rintro _ w2 ⟨⟨q, rfl, hq⟩, hw⟩
  subst hw
  refine ⟨_, rfl, ?_⟩
  refine splitW_i (fun _ => ⟨rfl, he0.trans he2⟩) (fun hlight2 => ?_)
  refine rdg he2 ?_
  refine callW_of (load_calls (hp.ext (he0.trans he2))) ?_
  rintro _ w3 ⟨x, rfl, hx, he3⟩
  refine ⟨(x, loadE size blocks ps, ()), rfl, ?_⟩
  have he3 := he2.trans he3
  refine rdg he3 ?_
  refine callW_of (refload_calls (hp.ext (he0.trans he3))) ?_
  rintro _ w4 ⟨y, rfl, hy, he4⟩
  refine ⟨(y, loadE size blocks ps, ()), rfl, ?_⟩
  have h34 := he4
  have he4 := he3.trans he4
  dsimp only
  refine splitW_f (by simp) ?_
  by_cases hE : loadE size blocks ps = 0
  · rw [if_pos hE] at hx hy
    obtain ⟨b, r, rfl, hc, _, _⟩ := hx
    obtain ⟨b2, r2, rfl, hc2, _, _⟩ := hy
    obtain ⟨hok, hf⟩ := loadE_zero hE
    obtain ⟨h8, n, rfl, hn1, hn2⟩ := geo8 hok
    obtain ⟨hp1, hp2, _⟩ := perOf_spec h8
    rw [Int.toNat_natCast] at hf
    refine splitW_f (by rfl) ?_
    have hc := (hc.ext h34).ext ((Ext.refl w4).drew)
    have hc2 := hc2.ext ((Ext.refl w4).drew)
    have he4 := he4.drew
    show (splitW _ _ _) w4.drew
    generalize w4.drew = w5 at hc hc2 he4 ⊢
    refine splitW_f (by rfl) (ptr_i ?_)
    refine ld_blk (o := 2) (x := (some ⟨r2, 0, none⟩, (loadL ps).length, (loadL ps).length)) hc2.head (by rfl) ?_
    refine callW_of (all_calls hc) ?_
    rintro _ w6 ⟨⟨A3, n3, c3⟩, rfl, ho3, he6⟩
    refine ⟨(A3, n3, c3), rfl, ?_⟩
    dsimp only at ho3 ⊢
    have hc6 := hc.ext he6
    have hc26 := hc2.ext he6
    have he6 := he4.trans he6
    refine ⟨fun ls hls p hp => ?_, ?_⟩
    · simp only [List.mem_singleton] at hls
      subst hls
      simp only [List.mem_singleton] at hp
      subst hp
      rw [add_mk, hc26.head.cell]
      rfl
    refine callW_of (sameint_calls ho3.sl hc26.sl) ?_
    rintro _ w7 ⟨rfl, he7⟩
    refine ⟨_, rfl, ?_⟩
    rw [decide_eq_true rfl]
    refine splitW_t (by rfl) ?_
    refine callW_of (pages_calls (hc6.ext he7) h8) ?_
    rintro _ w8 ⟨⟨A4, n4, c4⟩, rfl, ho4, he8⟩
    refine ⟨(A4, n4, c4), rfl, ?_⟩
    dsimp only at ho4 ⊢
    have he8 := (he6.trans he7).trans he8
    rw [pages_load (by omega) hf] at ho4
    refine callW_of (samestr_calls ho4.sl (hp.ext (he0.trans he8))) ?_
    rintro _ w9 ⟨rfl, he9⟩
    refine ⟨_, rfl, ?_⟩
    have he9 := he8.trans he9
    rw [decide_eq_true rfl]
    refine splitW_t (by rfl) ?_
    refine rdg he9 ?_
    refine callW_of (refspages_calls w9 size n) ?_
    rintro _ w10 ⟨rfl, he10⟩
    refine ⟨_, rfl, ?_⟩
    refine ⟨?_, (he0.trans he9).trans he10⟩
    rw [spages_geo hok]
    have := fitsP_len hf
    have := hp.len
    congr 1
    rw [beq_iff_eq]
    omega
  · rw [if_neg hE] at hx hy
    subst hx hy
    refine splitW_f (by rfl) ?_
    exact splitW_t (by rfl) ⟨rfl, he0.trans he4.drew⟩
end Go.Proofs.Ytmogbadaoaikcaa.V
