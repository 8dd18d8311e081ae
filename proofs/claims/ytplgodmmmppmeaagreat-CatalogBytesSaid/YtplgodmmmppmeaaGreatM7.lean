/- Texts of mine, merged (wip/tool/mergep.py): L, L2, LB. -/
import Derived.Test.YtplgodmmmppmeaaGreatM6
set_option linter.unusedVariables false
set_option linter.unusedSimpArgs false
namespace Go.Proofs.YtplgodmmmppmeaaGreat
/- Law 24: the space, the catalog that all begin with; the example. -/
namespace V
open Go Go.Proofs Go.RowKit Crc
theorem zhL (w : World) : Calls Tryz.prog 22 #[] w (Ret fun v w' => ∃ db b, v = .tuple #[.pointer (some ⟨db, 0, none⟩), .pointer (some ⟨b, 0, none⟩)] /\ ∃ F, St w w' b db S0 F) := by
 apply zm9
 unfold S22
 refine zb (ziK w 256 256) ?_
 rintro _ w2 (⟨_, db, rfl, hd⟩ | ⟨hg, _⟩)
 ·refine ⟨(some ⟨db, 0, none⟩, 0, ()), rfl, ?_⟩
  refine zb (zkw hd) ?_
  rintro _ w3 ⟨b, rfl, F, h3⟩
  exact ⟨(some ⟨b, 0, none⟩, 0, ()), rfl, zc (by rfl) ⟨db, b, rfl, F, h3⟩⟩
 ·rw [zeQ] at hg; cases hg
def strt : ByteArray := ByteArray.mk #[116]
def strs : ByteArray := ByteArray.mk #[115]
def zdF (root snap : Nat) : Cat := ([(strt, zcB, root, 5, if root = 0 then 0 else 3)], [(strs, snap)])
theorem zfn (w : World) (root snap : Nat) : Calls Tryz.prog 23 #[.int .u32 (root : Int), .int .u32 (snap : Int)] w (Ret fun v w' => (∃ x y, v = .agg (ya x y).toArray /\ xd w' w.heap.size x y (zdF root snap)) /\ Ext w w') := by
 apply zna
 unfold S23
 refine zs fun r1 w1 hb1 he1 hr1 hz1 => ?_
 have tail : ∀ (rows : Int) (n : Nat) {w2 : World}, rows = (if root = 0 then 0 else 3) -> Ext w1 w2 -> Owni qk 62 w2 w1.heap.size (some ⟨n, 0, none⟩) 2 2 zcB ->
   (zi (.cells #[(.string (ByteArray.mk #[116])), (.slice (some (aD n)) 2 2), (.int .u32 (root : Int)), (.int .u64 (5 : Int)), (.int .i64 rows)] 44) fun (r3 : Nat) =>
    zi (.cells #[(.string (ByteArray.mk #[115])), (.int .u32 (snap : Int))] 46) fun (r4 : Nat) =>
    zd ((#[(.slice (some (aD r3)) 1 1), (.slice (some (aD r4)) 1 1)] : Array Value).size = 2) <|
    zv (aD r1) [(.slice (some (aD r3)) 1 1), (.slice (some (aD r4)) 1 1)] <|
    zn [.slc, .slc] (aD r1) fun (u5 : (SLC × SLC × Unit)) => (fun w' => (∃ x y, Value.agg #[(.slice u5.1.1 u5.1.2.1 u5.1.2.2), (.slice u5.2.1.1 u5.2.1.2.1 u5.2.1.2.2)] = .agg (ya x y).toArray /\ xd w' w.heap.size x y (zdF root snap)) /\ Ext w w')) w2 := by
  intro rows n w2 hrows he2 ho
  refine zs fun r3 w3 hb3 he3 hr3 hz3 => ?_
  refine zs fun r4 w4 hb4 he4 hr4 hz4 => ?_
  have he14 := (he2.trans he3).trans he4
  have hs2 := he2.size
  refine refill (vs := ya (some ⟨r3, 0, none⟩, 1, 1) (some ⟨r4, 0, none⟩, 1, 1)) (hb1.ext he14) (by rfl) (jl _ _) (by rfl) ?_
  intro w5 hb5 hx5 hk5 hz5
  have he5 := hx5 w (he1.trans he14) (by omega)
  have hk3 : Blk w5 r3 (yC.flat [(strt, (some ⟨n, 0, none⟩, 2, 2), root, 5, rows)]) 44 := by
   have : Blk w4 r3 (yC.flat [(strt, (some ⟨n, 0, none⟩, 2, 2), root, 5, rows)]) 44 := hb3.ext he4
   exact (hk5 r3 (by omega)).trans this
  have hk4 : Blk w5 r4 (xM.flat [(strs, snap)]) 46 := (hk5 r4 (by omega)).trans hb4
  have o5 : Only (fun k => k = r1) w4 w5 := ⟨he5.os.trans (he1.trans he14).os.symm, he5.tape.trans (he1.trans he14).tape.symm, he5.output.trans (he1.trans he14).output.symm, Nat.le_of_eq hz5.symm, fun k _ hk => hk5 k hk⟩
  have hor := ho.row
  refine zX (ls := qB) (x6 (some ⟨r3, 0, none⟩, 1, 1) (some ⟨r4, 0, none⟩, 1, 1)) hb5 (by rfl) ⟨⟨_, _, rfl, ⟨[(strt, (some ⟨n, 0, none⟩, 2, 2), root, 5, rows)], j7 hk3 rfl (by show 1 <= 9223372036854775807; omega) (by omega), rfl, fun i hi => ?_⟩, j7 hk4 rfl (by show 1 <= 9223372036854775807; omega) (by omega)⟩, he5⟩
  have hi : i < 1 := hi
  obtain rfl : i = 0 := by omega
  refine ⟨rfl, ?_, ?_⟩
  ·show (root, 5, rows) = (root, 5, _)
   rw [hrows]
  ·exact (((ho.ext he3).ext he4).only o5 (fun j hj e => by have := hor j hj; have : j = r1 := e; omega)).lower (by omega)
 by_cases h0 : root = 0
 ·refine zc (bne_eq_false_iff_eq.2 (by rw [h0]; rfl)) ?_
  refine zb (zg9 w1) ?_
  rintro _ w2 ⟨n, rfl, ho, he2⟩
  refine ⟨(some ⟨n, 0, none⟩, 2, 2), rfl, ?_⟩
  exact tail 0 n (by rw [if_pos h0]) he2 ho
 ·refine zf (bne_iff_ne.2 (by omega)) ?_
  refine zb (zg9 w1) ?_
  rintro _ w2 ⟨n, rfl, ho, he2⟩
  refine ⟨(some ⟨n, 0, none⟩, 2, 2), rfl, ?_⟩
  exact tail 3 n (by rw [if_neg h0]) he2 ho
theorem zoY (root snap : Nat) : kN (zdF root snap) = true := by
 refine jf.2 ⟨by show 1 <= 16; omega, by show 1 <= 16; omega, fun e he => ?_, fun s hs => ?_, rfl, rfl⟩
 ·rw [List.mem_singleton.1 he]
  refine ⟨by kernel_rfl, zot, ?_, ?_, by show 5 < _; omega⟩
  ·show 0 <= (if root = 0 then (0 : Int) else 3) /\ (if root = 0 then (0 : Int) else 3) <= 4096
   split <;> omega
  ·show root = 0 ↔ (if root = 0 then (0 : Int) else 3) = 0
   split
   ·rename_i h; exact ⟨fun _ => rfl, fun _ => h⟩
   ·rename_i h; exact ⟨fun e => absurd e h, fun e => by omega⟩
 ·rw [List.mem_singleton.1 hs]
  kernel_rfl
theorem zou (root snap : Nat) : (xG (zdF root snap)).length = 27 := by
 unfold xG zdF
 simp only [List.flatMap_cons, List.flatMap_nil, List.append_nil, qL, jk, List.length_cons, List.length_append, ue, zu, List.length_nil]
 have h1 : strt.size = 1 := by kernel_rfl
 have h2 : strs.size = 1 := by kernel_rfl
 have h3 : (xg zcB).length = 7 := by kernel_rfl
 omega
theorem zhM (w : World) : Calls Tryz.prog 9 #[] w (Ret fun v w' => v = .bool true /\ Ext w w') := by
 apply zoA
 unfold S9
 refine zb (zhL w) ?_
 rintro _ w1 ⟨db, b, rfl, F, h1⟩
 refine ⟨(some ⟨db, 0, none⟩, some ⟨b, 0, none⟩, ()), rfl, zc (by rfl) ?_⟩
 have q1 : ([] : List (Int × ByteArray)).length <= 500000 := by simp
 refine zb (zcm (x := (none, 0, 0)) (y := (none, 0, 0)) (c := zaa) (R := []) (H := []) (M := none) h1.sp (fun w' o => (zei w' 0).cat) (by rfl) (by exact zdD) (by rw [zku]; simp) (by rw [zcA]; omega) (by rw [zcA, zmP]; show 2 <= _; omega) (by
  rw [zdE, zcA, zig]; decide) (fun v hv => by cases hv)) ?_
 rintro _ w2 (⟨_, rfl, hst⟩ | ⟨hne, _⟩)
 rotate_left
 ·exact absurd rfl hne
 refine ⟨(0, 0, ()), rfl, ?_⟩
 obtain ⟨F2, h2, _⟩ := h1.step hst
 refine zb (zfn w2 0 0) ?_
 rintro _ w3 ⟨⟨x, y, rfl, hc3⟩, he3⟩
 refine ⟨x6 x y, rfl, ?_⟩
 have h3 := h2.ext' he3
 have hsafe := (St.own h2.sp hc3).mono (fun _ h => h.cat)
 have hlen := zou 0 0
 refine zb (zcm (x := x) (y := y) (c := zdF 0 0) (R := []) (H := []) (M := none) h3.sp hsafe (zoY 0 0) (by exact zdD) (by rw [zku]; simp) (by rw [zcA]; omega) (by rw [zcA, zmP, hlen]; omega) (by
  rw [zdE, zcA, zig, hlen]; decide) (fun v hv => by cases hv)) ?_
 rintro _ w4 (⟨hne, _⟩ | ⟨_, S', n, ls, rfl, hP, hst⟩)
 ·exact absurd hne (by unfold zdF zaa; simp)
 refine ⟨((n : Int), 0, ()), rfl, ?_⟩
 obtain ⟨F4, h4, _⟩ := h3.step hst
 have hu := hP.great.good.well.root n List.mem_cons_self
 refine zb (zg8 h4.sp hP.great.good hP.pg hu) ?_
 rintro _ w5 ⟨⟨x5, y5, rfl, hc5⟩, he5⟩
 refine ⟨(x6 x5 y5, 0, ()), rfl, ?_⟩
 refine yB (vs := ya x5 y5) (by rfl) (jl _ _) (fun r6 w6 hb6 he6 hr6 => ?_) (by rfl)
 refine zK fun w7 he7 hz7 hh7 => ?_
 have hn2 := (zN.1 hu).1
 have he57 := he6.trans he7
 refine zf (by rfl) (zf (by rfl) (zf (by rfl) (zf (bne_iff_ne.2 (by dsimp only; omega)) (zf (by rfl) ?_))))
 refine zX (ls := qB) (x6 x5 y5) (hb6.ext he7) (by rfl) ?_
 refine zb (zfn w7 0 0) ?_
 rintro _ w8 ⟨⟨x8, y8, rfl, hc8⟩, he8⟩
 refine ⟨x6 x8 y8, rfl, ?_⟩
 refine xT (zaz ((hb6.ext he7).ext he8)) ?_
 refine zb (zek (hc5.ext (he57.trans he8)).cat hc8.cat) ?_
 rintro _ w9 ⟨⟨v, rfl, hv⟩, he9⟩
 refine ⟨_, rfl, ?_, h4.ext.trans ((he5.trans (he57.trans he8)).trans he9)⟩
 rw [hv.2 rfl]
end V
/- Law 24: light catalogs; roots as 1; CatalogBytes. -/
namespace V
open Go Go.Proofs Go.RowKit Crc
variable {w w' : World}
structure zcn (c : Cat) : Prop where
 tabs : c.1.length <= 20
 snaps : c.2.length <= 20
 ents : ∀ e ∈ c.1, e.1.size <= 60 /\ jD e.2.1 = true
 snps : ∀ s ∈ c.2, s.1.size <= 60
theorem zcn.lt {c : Cat} (h : zcn c) : zmN c := by
 refine ⟨by have := h.tabs; omega, by have := h.snaps; omega, fun e he => ?_⟩
 have := zft (h.ents e he).2
 omega
theorem zhN {x y : SLC} {c : Cat} (h : qA w x y c) : Calls Tryz.prog 10 #[.agg (ya x y).toArray] w (Ret fun v w' => (∃ b : Bool, v = .bool b /\ (b = true -> zcn c)) /\ Ext w w') := by
 obtain ⟨⟨raws, hT⟩, hs, hcx, hcy⟩ := h
 have hl := hT.len
 have hxl := hT.sl.len
 have hyl := hs.len
 have hle := hT.sl.le
 have hley := hs.le
 apply zm3
 unfold S10
 refine zs fun r1 w1 hb1 he1 hr1 hz1 => ?_
 have hb1 : Blk w1 r1 (ya x y) 25 := hb1
 have no : ∀ {w2 : World}, Ext w1 w2 -> (fun v w' => (∃ b : Bool, v = Value.bool b /\ (b = true -> zcn c)) /\ Ext w w') (.bool false) w2 := fun he => ⟨⟨false, rfl, fun e => by cases e⟩, he1.trans he⟩
 refine zz (fun q w' => ∃ i : Nat, i <= raws.length /\ q = ((i : Int), ()) /\ Ext w1 w' /\ ∀ j, j < i -> (c.1.getD j zZ).1.size <= 60 /\ jD (c.1.getD j zZ).2.1 = true) (fun q => (raws.length - q.1).toNat) ⟨0, by omega, rfl, Ext.refl _, fun j hj => by omega⟩ ?_
 rintro _ w2 ⟨i, hi, rfl, he2, hq⟩
 dsimp only
 have hb2 := hb1.ext he2
 have he02 := he1.trans he2
 refine zG x hb2 (by rfl) ?_
 by_cases hlt : i < raws.length
 ·refine zf (decide_eq_true (by omega)) (zG x hb2 (by rfl) ?_)
  have hE := hT.at_ i (by omega)
  refine zjB (E := yC) (fun e : Raw => e.1) yw (hT.sl.ext he02) (fun _ => rfl) rfl (by omega) (by omega) ?_
  rw [Int.toNat_natCast]
  refine zg (fun _ => no he2) (fun hn => ?_)
  have hn := of_decide_eq_false hn
  refine zG x hb2 (by rfl) ?_
  refine zcs (E := yC) 1 (fun e : Raw => e.2.1) yw (hT.sl.ext he02) (fun _ => rfl) rfl (by omega) (by omega) ?_
  rw [Int.toNat_natCast]
  refine zb (zd0 (hE.cols.ext he02)) ?_
  rintro _ w3 ⟨rfl, he3⟩
  refine ⟨_, rfl, ?_⟩
  refine zg (fun _ => no (he2.trans he3)) (fun hn2 => ?_)
  have hw : IntKind.wrap .i64 ((i : Int) + 1) = ((i + 1 : Nat) : Int) := by rw [wrap_i64 (by omega) (by omega)]; rfl
  rw [hw]
  refine ⟨⟨i + 1, by omega, rfl, he2.trans he3, fun j hj => ?_⟩, by omega⟩
  by_cases e : j = i
  ·subst e
   refine ⟨?_, by simpa using hn2⟩
   rw [<- hE.name]
   omega
  ·exact hq j (by omega)
 obtain rfl : i = raws.length := by omega
 refine zc (decide_eq_false (by omega)) ?_
 refine zz (fun q w' => ∃ i : Nat, i <= c.2.length /\ q = ((i : Int), ()) /\ Ext w1 w' /\ ∀ j, j < i -> (c.2.getD j z6).1.size <= 60) (fun q => (c.2.length - q.1).toNat) ⟨0, by omega, rfl, he2, fun j hj => by omega⟩ ?_
 rintro _ w3 ⟨i, hi, rfl, he3, hq2⟩
 dsimp only
 have hb3 := hb1.ext he3
 have he03 := he1.trans he3
 refine zm 1 y hb3 (by rfl) ?_
 by_cases hlt : i < c.2.length
 ·refine zf (decide_eq_true (by omega)) (zm 1 y hb3 (by rfl) ?_)
  refine zjB (E := xM) (fun e : Snp => e.1) z6 (hs.ext he03) (fun _ => rfl) rfl (by omega) (by omega) ?_
  rw [Int.toNat_natCast]
  refine zg (fun _ => no he3) (fun hn => ?_)
  have hn := of_decide_eq_false hn
  have hw : IntKind.wrap .i64 ((i : Int) + 1) = ((i + 1 : Nat) : Int) := by rw [wrap_i64 (by omega) (by omega)]; rfl
  rw [hw]
  refine ⟨⟨i + 1, by omega, rfl, he3, fun j hj => ?_⟩, by omega⟩
  by_cases e : j = i
  ·subst e
   omega
  ·exact hq2 j (by omega)
 obtain rfl : i = c.2.length := by omega
 refine zc (decide_eq_false (by omega)) (zG x hb3 (by rfl) ?_)
 refine zg (fun h1 => ?_) (fun _ => no he3)
 have h1 := of_decide_eq_true h1
 refine zm 1 y hb3 (by rfl) ⟨⟨_, rfl, fun h2 => ?_⟩, he03⟩
 have h2 := of_decide_eq_true h2
 refine ⟨by omega, by omega, fun e he => ?_, fun s hs => ?_⟩
 ·obtain ⟨j, hj, rfl⟩ := List.mem_iff_getElem.1 he
  have := hq j (by omega)
  rw [List.getD_eq_getElem?_getD, List.getElem?_eq_getElem hj] at this
  exact this
 ·obtain ⟨j, hj, rfl⟩ := List.mem_iff_getElem.1 hs
  have := hq2 j hj
  rw [List.getD_eq_getElem?_getD, List.getElem?_eq_getElem hj] at this
  exact this
theorem zkx (n : Nat) : (if (1 : Int) < (n : Int) then (1 : Int) else (n : Int)) = ((min n 1 : Nat) : Int) := by
 split <;> omega
def zaH (r : Raw) : Raw := (r.1, r.2.1, min r.2.2.1 1, r.2.2.2.1, r.2.2.2.2)
theorem zbx {α : Type} {f : α -> α} {l : List α} {i : Nat} {d : α} (h : i < l.length) : ((l.take i).map f ++ l.drop i).set i (f (l.getD i d)) = (l.take (i + 1)).map f ++ l.drop (i + 1) := by
 rw [List.getD_eq_getElem?_getD, List.getElem?_eq_getElem h, Option.getD_some]
 rw [List.set_append_right _ _ (by rw [List.length_map, List.length_take]; omega), List.length_map, List.length_take, Nat.min_eq_left (by omega), Nat.sub_self]
 rw [List.drop_eq_getElem_cons h, List.set_cons_zero, List.take_succ_eq_append_getElem h, List.map_append, List.append_assoc]
 rfl
theorem zco {α : Type} {f : α -> α} {l : List α} {i : Nat} {d : α} (h : i < l.length) : ((l.take i).map f ++ l.drop i)[i]? = some (l.getD i d) := by
 rw [List.getElem?_append_right (by rw [List.length_map, List.length_take]; omega), List.length_map, List.length_take, Nat.min_eq_left (by omega), Nat.sub_self, List.getElem?_drop, Nat.add_zero, List.getD_eq_getElem?_getD, List.getElem?_eq_getElem h]
 rfl
theorem zjp {x y : SLC} {c : Cat} (h : qA w x y c) (hlt : zmN c) : Calls Tryz.prog 14 #[.agg (ya x y).toArray] w (Ret fun v w' => (∃ X Y, v = .agg (ya X Y).toArray /\ qA w' X Y (ones c)) /\ Ext w w') := by
 obtain ⟨⟨raws, hT⟩, hs, hcx, hcy⟩ := h
 obtain ⟨hl1, hl2, hl3⟩ := hlt
 have hl := hT.len
 have hxl := hT.sl.len
 have hyl := hs.len
 apply zm7
 unfold S14
 refine zs fun r1 w1 hb1 he1 hr1 hz1 => ?_
 refine zs fun r2 w2 hb2 he2 hr2 hz2 => ?_
 refine yv ?_
 have he3 : Ext w2 (w2.alloc (.cells #[] 44)) := (Ext.refl w2).alloc _
 have ho3 : Owni yC 44 (w2.alloc (.cells #[] 44)) w2.heap.size (some ⟨w2.heap.size, 0, none⟩) 0 0 ([] : List Raw) := Owni.lit (xs := []) (n := 0) rfl (Nat.le_refl _) (by omega)
 have hz3 : (w2.alloc (.cells #[] 44)).heap.size = w2.heap.size + 1 := by simp
 generalize (w2.alloc (.cells #[] 44)) = w3 at *
 generalize (some (⟨w2.heap.size, 0, none⟩ : Addr)) = A3 at *
 have hb1 : Blk w3 r1 (ya x y) 25 := (Blk.ext hb1 he2).ext he3
 have hb2 : Blk w3 r2 (ya (none, 0, 0) (none, 0, 0)) 25 := Blk.ext hb2 he3
 have he03 := (he1.trans he2).trans he3
 refine zG x hb1 (by rfl) ?_
 refine yZ zgN ho3 (by omega) (hT.sl.ext he03) (by omega) (by omega) ?_
 intro A4 k4 w4 ho4 hg4 _
 rw [Nat.zero_add, List.nil_append] at ho4
 rw [Nat.zero_add]
 have he4 : Ext w w4 := he03.grown hg4.grown (fun j hj => by have := ho3.row j hj; have := (he1.trans he2).size; omega)
 have hrow3 := ho3.row
 have f1 : Blk w4 r1 (ya x y) 25 := hb1.grown hg4.grown (fun e => by have := hrow3 _ e.symm; omega)
 have f2 : Blk w4 r2 (ya (none, 0, 0) (none, 0, 0)) 25 := hb2.grown hg4.grown (fun e => by have := hrow3 _ e.symm; omega)
 have hs4 := hg4.grown.size
 refine stE (o := 0) f1 rfl (by show 0 < 2; omega) ?_
 intro w5 g1 o5
 have g1 : Blk w5 r1 (ya (A4, x.2.1, k4) y) 25 := g1
 have g2 := f2.only o5 (fun e => by have : r2 = r1 := e; omega)
 have ho5 := ho4.only o5 (fun j hj e => by have := ho4.row j hj; have : j = r1 := e; omega)
 have he5 : Ext w w5 := Only.ext he4 o5 (fun j e => by have : j = r1 := e; omega)
 have hs5 := o5.2.2.2.1
 refine yv ?_
 have he6 : Ext w5 (w5.alloc (.cells #[] 46)) := (Ext.refl w5).alloc _
 have ho6 : Owni xM 46 (w5.alloc (.cells #[] 46)) w5.heap.size (some ⟨w5.heap.size, 0, none⟩) 0 0 ([] : List Snp) := Owni.lit (xs := []) (n := 0) rfl (Nat.le_refl _) (by omega)
 have hz6 : (w5.alloc (.cells #[] 46)).heap.size = w5.heap.size + 1 := by simp
 generalize (w5.alloc (.cells #[] 46)) = w6 at *
 generalize (some (⟨w5.heap.size, 0, none⟩ : Addr)) = A6 at *
 have e1 := g1.ext he6
 have e2 := g2.ext he6
 have ho56 := ho5.ext he6
 refine zm 1 y e1 (by rfl) ?_
 refine yZ zgO ho6 (by omega) (hs.ext (he5.trans he6)) (by omega) (by omega) ?_
 intro A7 k7 w7 ho7 hg7 _
 rw [Nat.zero_add, List.nil_append] at ho7
 rw [Nat.zero_add]
 have hrow6 := ho6.row
 have hsz05 := he5.size
 have he7 : Ext w w7 := (he5.trans he6).grown hg7.grown (fun j hj => by have := hrow6 j hj; omega)
 have d1 := e1.grown hg7.grown (fun e => by have := hrow6 _ e.symm; omega)
 have d2 := e2.grown hg7.grown (fun e => by have := hrow6 _ e.symm; omega)
 have ho57 := ho56.grown hg7.grown (fun j hj => ho6.ne ho56 (by decide) j hj)
 have hs7 := hg7.grown.size
 show stW ((aD r1).add 1) _ _ w7
 rw [zx]
 refine stE (o := 1) d1 rfl (by show 1 < 2; omega) ?_
 intro w8 c1 o8
 have c1 : Blk w8 r1 (ya (A4, x.2.1, k4) (A7, y.2.1, k7)) 25 := c1
 have c2 := d2.only o8 (fun e => by have : r2 = r1 := e; omega)
 have hw8 : Ext w w8 := Only.ext he7 o8 (fun j e => by have : j = r1 := e; omega)
 have T8 := (ho57.only o8 (fun j hj e => by have := ho57.row j hj; have : j = r1 := e; omega)).lower (B' := r2 + 1) (by omega)
 have S8 := (ho7.only o8 (fun j hj e => by have := ho7.row j hj; have : j = r1 := e; omega)).lower (B' := r2 + 1) (by omega)
 -- the tables
 refine zz (fun q w' => ∃ i : Nat, i <= raws.length /\ q = ((i : Int), ()) /\ Ext w w' /\ Blk w' r1 (ya (A4, x.2.1, k4) (A7, y.2.1, k7)) 25 /\ Blk w' r2 (ya (none, 0, 0) (none, 0, 0)) 25 /\ Owni yC 44 w' (r2 + 1) A4 x.2.1 k4 ((raws.take i).map zaH ++ raws.drop i) /\ Owni xM 46 w' (r2 + 1) A7 y.2.1 k7 c.2) (fun q => (raws.length - q.1).toNat) ⟨0, by omega, rfl, hw8, c1, c2, T8, S8⟩ ?_
 rintro _ w9 ⟨i, hi, rfl, he9, q1, q2, q3, q4⟩
 dsimp only
 refine zG (A4, x.2.1, k4) q1 (by rfl) ?_
 by_cases hlt : i < raws.length
 ·refine zf (decide_eq_true (by dsimp only; omega)) ?_
  refine zK fun w10 he10 hz10 hh10 => ?_
  have p1 := q1.ext he10
  have p3 := q3.ext he10
  refine zG (A4, x.2.1, k4) p1 (by rfl) (zG (A4, x.2.1, k4) p1 (by rfl) ?_)
  have eg := zco (f := zaH) (d := yw) hlt
  refine zcs (E := yC) 2 (fun e : Raw => ((e.2.2.1 : Nat) : Int)) yw p3.sl (fun _ => rfl) rfl (by omega) (by dsimp only; omega) ?_
  rw [Int.toNat_natCast, List.getD_eq_getElem?_getD, eg, Option.getD_some, zkx]
  refine zL ⟨by omega, by dsimp only; omega⟩ ?_
  obtain ⟨a, hA, _⟩ := p3.sl.2.2 (by omega)
  refine ⟨a, hA, ?_⟩
  show stW ((a.add (i * 5)).add 2) _ _ w10
  have hadr : (a.add (i * 5)).add 2 = ((adr A4).add (i * 5)).add 2 := by rw [hA]; rfl
  have hw : IntKind.wrap .i64 ((i : Int) + 1) = ((i + 1 : Nat) : Int) := by rw [wrap_i64 (by omega) (by omega)]; rfl
  rw [hadr, hw]
  refine Owni.stF (x' := zaH (raws.getD i yw)) p3 (k := 5) rfl eg (by omega) (by rfl) ?_
  intro w11 ho11 o11
  rw [zbx hlt] at ho11
  have hr3 := p3.row
  refine ⟨⟨i + 1, by omega, rfl, Only.ext (he9.trans he10) o11 (fun j hj => by have := hr3 j hj; omega), p1.only o11 (fun e => by have := hr3 _ e; omega), (q2.ext he10).only o11 (fun e => by have := hr3 _ e; omega), ho11, (q4.ext he10).only o11 (fun q hq e => (q4.ext he10).ne p3 (by decide) q hq e)⟩, by omega⟩
 obtain rfl : i = raws.length := by omega
 refine zc (decide_eq_false (by dsimp only; omega)) ?_
 rw [List.take_of_length_le (Nat.le_refl _), List.drop_eq_nil_of_le (Nat.le_refl _), List.append_nil] at q3
 refine zz (fun q w' => ∃ i : Nat, i <= c.2.length /\ q = ((i : Int), ()) /\ Ext w w' /\ Blk w' r1 (ya (A4, x.2.1, k4) (A7, y.2.1, k7)) 25 /\ Blk w' r2 (ya (none, 0, 0) (none, 0, 0)) 25 /\ Owni yC 44 w' (r2 + 1) A4 x.2.1 k4 (raws.map zaH) /\ Owni xM 46 w' (r2 + 1) A7 y.2.1 k7 ((c.2.take i).map qS ++ c.2.drop i)) (fun q => (c.2.length - q.1).toNat) ⟨0, by omega, rfl, he9, q1, q2, q3, q4⟩ ?_
 rintro _ w9' ⟨i, hi, rfl, he9, q1, q2, q3, q4⟩
 dsimp only
 refine zm 1 (A7, y.2.1, k7) q1 (by rfl) ?_
 by_cases hlt : i < c.2.length
 ·refine zf (decide_eq_true (by dsimp only; omega)) ?_
  refine zK fun w10 he10 hz10 hh10 => ?_
  have p1 := q1.ext he10
  have p3 := q4.ext he10
  refine zm 1 (A7, y.2.1, k7) p1 (by rfl) (zm 1 (A7, y.2.1, k7) p1 (by rfl) ?_)
  have eg := zco (f := qS) (d := z6) hlt
  refine zcs (E := xM) 1 (fun e : Snp => ((e.2 : Nat) : Int)) z6 p3.sl (fun _ => rfl) rfl (by omega) (by dsimp only; omega) ?_
  rw [Int.toNat_natCast, List.getD_eq_getElem?_getD, eg, Option.getD_some, zkx]
  refine zL ⟨by omega, by dsimp only; omega⟩ ?_
  obtain ⟨a, hA, _⟩ := p3.sl.2.2 (by omega)
  refine ⟨a, hA, ?_⟩
  show stW ((a.add (i * 2)).add 1) _ _ w10
  have hadr : (a.add (i * 2)).add 1 = ((adr A7).add (i * 2)).add 1 := by rw [hA]; rfl
  have hw : IntKind.wrap .i64 ((i : Int) + 1) = ((i + 1 : Nat) : Int) := by rw [wrap_i64 (by omega) (by omega)]; rfl
  rw [hadr, hw]
  refine Owni.stF (x' := qS (c.2.getD i z6)) p3 (k := 2) rfl eg (by omega) (by rfl) ?_
  intro w11 ho11 o11
  rw [zbx hlt] at ho11
  have hr3 := p3.row
  refine ⟨⟨i + 1, by omega, rfl, Only.ext (he9.trans he10) o11 (fun j hj => by have := hr3 j hj; omega), p1.only o11 (fun e => by have := hr3 _ e; omega), (q2.ext he10).only o11 (fun e => by have := hr3 _ e; omega), (q3.ext he10).only o11 (fun q hq e => (q3.ext he10).ne p3 (by decide) q hq e), ho11⟩, by omega⟩
 obtain rfl : i = c.2.length := by omega
 refine zc (decide_eq_false (by dsimp only; omega)) ?_
 rw [List.take_of_length_le (Nat.le_refl _), List.drop_eq_nil_of_le (Nat.le_refl _), List.append_nil] at q4
 refine zX (ls := qB) (x6 (A4, x.2.1, k4) (A7, y.2.1, k7)) q1 (by rfl) ?_
 refine refill (vs := ya (A4, x.2.1, k4) (A7, y.2.1, k7)) q2 (by rfl) (jl _ _) (by rfl) ?_
 intro w10 hb10 hx10 hk10 hz10
 have he10 := hx10 w he9 (by omega)
 have o : Only (fun k => k = r2) w9' w10 := ⟨he10.os.trans he9.os.symm, he10.tape.trans he9.tape.symm, he10.output.trans he9.output.symm, Nat.le_of_eq hz10.symm, fun k _ hk => hk10 k hk⟩
 have t10 := q3.only o (fun j hj e => by have := q3.row j hj; have : j = r2 := e; omega)
 have s10 := q4.only o (fun j hj e => by have := q4.row j hj; have : j = r2 := e; omega)
 refine zX (ls := qB) (x6 (A4, x.2.1, k4) (A7, y.2.1, k7)) hb10 (by rfl) ⟨⟨_, _, rfl, ⟨_, t10.sl, by rw [List.length_map]; show _ = (c.1.map qo).length; rw [List.length_map, hl], fun i hi => ?_⟩, s10.sl, t10.le.1, s10.le.1⟩, he10⟩
 have hi : i < c.1.length := by
  have : i < (c.1.map qo).length := hi
  rwa [List.length_map] at this
 have hE := (hT.at_ i hi).ext he10
 show za6 w10 ((raws.map zaH).getD i yw) ((c.1.map qo).getD i zZ)
 rw [getD_map' zaH raws i yw yw (by omega), getD_map' qo c.1 i zZ zZ hi]
 refine ⟨hE.name, ?_, hE.cols, hE.cap⟩
 show (min _ 1, _, _) = (min _ 1, _, _)
 rw [hE.rest]
end V
/- Law 24: CatalogBytes. -/
namespace V
open Go Go.Proofs Go.RowKit Crc
variable {w w' : World}
theorem zfA (w : World) {x y : SLC} {c : Cat} (h : qA w x y c) (s : ByteArray) :
  Calls Tryz.prog 3 #[.agg (ya x y).toArray, .string s] w (Ret fun v w' => v = .bool true /\ Ext w w') := by
 apply zoz
 unfold S3
 refine zs fun r1 w1 hb1 he1 hr1 hz1 => ?_
 have hb1 : Blk w1 r1 (ya x y) 25 := hb1
 refine zb (zhM w1) ?_
 rintro _ w2 ⟨rfl, he2⟩
 refine ⟨_, rfl, zc (by rfl) ?_⟩
 have he02 := he1.trans he2
 refine zX (ls := qB) (x6 x y) (hb1.ext he2) (by rfl) ?_
 refine zb (zhN (h.ext he02)) ?_
 rintro _ w3 ⟨⟨lb, rfl, hlb⟩, he3⟩
 refine ⟨_, rfl, ?_⟩
 have he03 := he02.trans he3
 refine zg (fun _ => ⟨rfl, he03⟩) (fun hl => ?_)
 have hL : zcn c := hlb (by simpa using hl)
 refine zg (fun _ => ⟨rfl, he03⟩) (fun hs => ?_)
 have hs := of_decide_eq_false hs
 have hb3 := (hb1.ext he2).ext he3
 refine zX (ls := qB) (x6 x y) hb3 (by rfl) ?_
 refine zb (vn (h.ext he03)) ?_
 rintro _ w4 ⟨rfl, he4⟩
 refine ⟨((xj c).1, (xj c).2, ()), rfl, ?_⟩
 have hbl : (xj c).1.size <= 11000 := by
  unfold xj
  split
  ·rename_i hk
   rw [xe]; exact (jf.1 hk).len
  ·show 0 <= _; omega
 refine zb (vN (s := (xj c).1) (by omega)) ?_
 rintro _ w5 ⟨⟨x5, y5, rfl, hc5⟩, he5⟩
 refine ⟨(x6 x5 y5, (yO (B (xj c).1)).2, ()), rfl, ?_⟩
 refine yB (vs := ya x5 y5) (by rfl) (jl _ _) (fun r8 w6 hb6 he6 hr6 => ?_) (by rfl)
 refine zb (vN (s := s) (by omega)) ?_
 rintro _ w7 ⟨⟨x7, y7, rfl, hc7⟩, he7⟩
 refine ⟨(x6 x7 y7, (yO (B s)).2, ()), rfl, ?_⟩
 refine yB (vs := ya x7 y7) (by rfl) (jl _ _) (fun r10 w8 hb8 he8 hr8 => ?_) (by rfl)
 refine zX (ls := qB) (x6 x7 y7) hb8 (by rfl) ?_
 refine zb (vn (hc7.ext he8).cat) ?_
 rintro _ w9 ⟨rfl, he9⟩
 refine ⟨((xj (yO (B s)).1).1, (xj (yO (B s)).1).2, ()), rfl, ?_⟩
 dsimp only
 have he39 := ((((he4.trans he5).trans he6).trans he7).trans he8).trans he9
 have he09 := he03.trans he39
 have he59 := ((he6.trans he7).trans he8).trans he9
 have hb6' := ((hb6.ext he7).ext he8).ext he9
 have hb1' := hb3.ext he39
 refine yr (fun _ w' => Ext w w') ?_ (fun J13 hJ13 => ?_)
 ·rintro _ w10 he10
  -- what is read
  have last : (za ((yO (B s)).2 == (0 : Int)) (za ((xj (yO (B s)).1).2 == (0 : Int)) ((fun w' => Value.bool ((xj (yO (B s)).1).1.toList == s.toList) = .bool true /\ Ext w w')) <| (fun w' => Value.bool false = .bool true /\ Ext w w')) <| (fun w' => Value.bool false = .bool true /\ Ext w w')) w10 \/ ((yO (B s)).2 ≠ 0 /\ (yO (B s)).2 = 240) := by
   by_cases h0 : (yO (B s)).2 = 0
   ·left
    refine zf (beq_iff_eq.2 h0) ?_
    obtain ⟨k1, k2, k3⟩ := zl4 (s := B s) (c := (yO (B s)).1) (by rw [<- h0])
    have eB : xj (yO (B s)).1 = (mkB (B s), 0) := by unfold xj; rw [if_pos (jf.2 k1), k2]
    rw [eB]
    refine zf (by rfl) ⟨?_, he10⟩
    rw [qZ, xa, decide_eq_true rfl]
   ·right
    exact ⟨h0, by rw [zjR h0]⟩
  rcases last with h1 | ⟨h1, h2⟩
  ·refine zg (fun hq => ?_) (fun _ => h1)
   refine zg (fun _ => ⟨rfl, he10⟩) (fun _ => h1)
  ·refine zf (bne_iff_ne.2 h1) (zf (beq_iff_eq.2 h2) ⟨rfl, he10⟩)
 ·refine yr (fun y16 w' => y16 = (false, ()) /\ Ext w w') ?_ (fun J15 hJ15 => ?_)
  ·rintro _ w10 ⟨rfl, he10⟩
   exact zc (by rfl) (hJ13 _ _ he10)
  ·refine zK fun w10 he10 hz10 hh10 => ?_
   have he010 := he09.trans he10
   by_cases hk : kN c = true
   ·have eB : xj c = (mkB (xG c), 0) := by unfold xj; rw [if_pos hk]
    have hIs := jf.1 hk
    rw [eB] at hc5 ⊢
    dsimp only at hc5 ⊢
    rw [xa, zd5 hIs] at hc5 ⊢
    refine zf (by rfl) (zc (by rfl) ?_)
    refine zX (ls := qB) (x6 x5 y5) (hb6'.ext he10) (by rfl) ?_
    refine zX (ls := qB) (x6 x y) (hb1'.ext he10) (by rfl) ?_
    refine zb (zjp (h.ext he010) hL.lt) ?_
    rintro _ w11 ⟨⟨X, Y, rfl, hO⟩, he11⟩
    refine ⟨x6 X Y, rfl, ?_⟩
    refine xT (zaz ((hb6'.ext he10).ext he11)) ?_
    refine zb (zek (((hc5.ext he59).ext he10).ext he11).cat hO) ?_
    rintro _ w12 ⟨⟨v, rfl, hv⟩, he12⟩
    refine ⟨_, rfl, zc (by rw [hv.2 rfl]; rfl) (zc (by rfl) (hJ15 _ _ ⟨rfl, (he010.trans he11).trans he12⟩))⟩
   ·have eB : xj c = (ByteArray.empty, 240) := by unfold xj; rw [if_neg hk]
    rw [eB]
    refine zc (by rfl) (zf (by rfl) (zc (by rfl) (hJ15 _ _ ⟨?_, he010⟩)))
    rw [qZ]; rfl
end V
end Go.Proofs.YtplgodmmmppmeaaGreat
