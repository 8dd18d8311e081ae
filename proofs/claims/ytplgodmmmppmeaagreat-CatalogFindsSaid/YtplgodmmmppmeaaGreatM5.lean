/- Texts of mine, merged (wip/tool/mergep.py): KSpa8, KSpa9, HR3, KWalk, KWalk2, KWalk3, Good, Good2, Good3, Taken, KCommit, KOpen, Great, Great2, BlobP, Great3, TreeP, KTree1, KTree2, KAtS, KAt2, KMark, KGreat, KTree3, KTree4, KTree5, KBlob1, KTree6, KTree7, KTree8, KCat2, KCat3, KCat4. -/
import Derived.Test.YtplgodmmmppmeaaGreatM4
import Derived.Test.YtplgodmmmppmeaaGreatM3
set_option linter.unusedVariables false
set_option linter.unusedSimpArgs false
namespace Go.Proofs.YtplgodmmmppmeaaGreat
/- Contracts of the package space: commit, Format. -/
namespace V
open Go Go.Proofs Go.RowKit Crc
def wrL (d : Dev) : List (Nat × Fra) -> Dev × Int
 | [] => (d, 0)
 | kf :: r => if (yj d kf.1 kf.2).2 ≠ 0 then yj d kf.1 kf.2 else wrL (yj d kf.1 kf.2).1 r
def xn (gen : Nat) (ps : List Nat) (l : List ByteArray) : List (Nat × Fra) := (ps.zip l).map fun p => (p.1, ((2 : UInt8), gen, p.2))
def yI (d : Dev) (c : List Nat) (s : Sup) (slot : Int) : Dev × Int :=
 if (wrL d (xn s.gen s.pages (zQ c (zH d.size)))).2 ≠ 0 then wrL d (xn s.gen s.pages (zQ c (zH d.size)))
 else if (wrL d (xn s.gen s.pages (zQ c (zH d.size)))).1.flush.2 ≠ 0 then (wrL d (xn s.gen s.pages (zQ c (zH d.size)))).1.flush
 else if (xu s).2 ≠ 0 then ((wrL d (xn s.gen s.pages (zQ c (zH d.size)))).1.flush.1, (xu s).2)
 else if ((wrL d (xn s.gen s.pages (zQ c (zH d.size)))).1.flush.1.write slot (mkB (xu s).1)).2 ≠ 0 then (wrL d (xn s.gen s.pages (zQ c (zH d.size)))).1.flush.1.write slot (mkB (xu s).1)
 else ((wrL d (xn s.gen s.pages (zQ c (zH d.size)))).1.flush.1.write slot (mkB (xu s).1)).1.flush
theorem Step.pre {w w1 w2 : World} {db : Nat} {Fd F1 : Nat -> Prop} {d : Dev} (hO : Only Fd w w1) (hF : ∀ k, F1 k -> Fd k \/ w.heap.size <= k) (h : Step w1 db F1 d w2) : Step w db Fd d w2 := by
 obtain ⟨F2, g1, g2, g3⟩ := h
 refine ⟨F2, g1, fun k hk => ?_, Only.trans hO g3 hF⟩
 rcases g2 k hk with e | e
 ·exact hF k e
 ·exact .inr (Nat.le_trans hO.2.2.2.1 e)
theorem jE (d : Dev) (k : Int) (s : ByteArray) : (d.write k s).1.size = d.size /\ (d.write k s).1.blocks = d.blocks /\ (d.write k s).1.pen.length <= d.pen.length + 1 := by
 unfold Dev.write
 split
 ·exact ⟨rfl, rfl, by simp⟩
 ·split
  ·exact ⟨rfl, rfl, by simp⟩
  ·exact ⟨rfl, rfl, by simp⟩
theorem vU (d : Dev) (k : Int) (f : Fra) : (yj d k f).1.size = d.size /\ (yj d k f).1.blocks = d.blocks /\ (yj d k f).1.pen.length <= d.pen.length + 1 := by
 unfold yj
 split
 ·exact ⟨rfl, rfl, by simp⟩
 ·exact jE _ _ _
theorem vG (d : Dev) : d.flush.1.size = d.size /\ d.flush.1.blocks = d.blocks /\ d.flush.1.pen.length <= d.pen.length := by
 unfold Dev.flush
 split
 ·exact ⟨rfl, rfl, Nat.le_refl _⟩
 ·exact ⟨rfl, rfl, by simp⟩
theorem zcz : ∀ (l : List (Nat × Fra)) (d : Dev), (wrL d l).1.size = d.size /\ (wrL d l).1.blocks = d.blocks /\ (wrL d l).1.pen.length <= d.pen.length + l.length
 | [], d => ⟨rfl, rfl, by simp [wrL]⟩
 | kf :: r, d => by
  obtain ⟨h1, h2, h3⟩ := vU d kf.1 kf.2
  unfold wrL
  split
  ·exact ⟨h1, h2, by simp only [List.length_cons]; omega⟩
  ·obtain ⟨g1, g2, g3⟩ := zcz r (yj d kf.1 kf.2).1
   exact ⟨g1.trans h1, g2.trans h2, by simp only [List.length_cons]; omega⟩
theorem zbw (l : List Nat) (per : Nat) : (zQ l per).length = yl l.length per := by simp [zQ]
theorem zgE {gen : Nat} {ps : List Nat} {l : List ByteArray} (h : ps.length = l.length) {i : Nat} (hi : i < l.length) : (xn gen ps l)[i]? = some (ps.getD i 0, ((2 : UInt8), gen, l.getD i ByteArray.empty)) := by
 unfold xn
 rw [List.getElem?_map, List.getElem?_zip_eq_some.2 (show ps[i]? = some (ps.getD i 0, l.getD i ByteArray.empty).1 /\ l[i]? = some (ps.getD i 0, l.getD i ByteArray.empty).2 from ⟨?_, ?_⟩)]
 ·rfl
 ·show ps[i]? = some (ps.getD i 0)
  rw [List.getD_eq_getElem?_getD, List.getElem?_eq_getElem (by omega)]; rfl
 ·show l[i]? = some (l.getD i ByteArray.empty)
  rw [List.getD_eq_getElem?_getD, List.getElem?_eq_getElem (by omega)]; rfl
theorem zhG {gen : Nat} {ps : List Nat} {l : List ByteArray} (h : ps.length = l.length) : (xn gen ps l).length = l.length := by
 unfold xn
 rw [List.length_map, List.length_zip, h, Nat.min_self]
theorem zgF {w : World} {db : Nat} {d : Dev} {Fd : Nat -> Prop} (h : xb w db d Fd) {cb cr : Nat} {q : List Value} {c : List Nat} (hc : Cnt w cb cr d.size q c) {s : Sup} {x : SLC} (hf : s.Fits) (hp : Pg w x s.pages)
  (hx : ∀ a, x.1 = some a -> ¬ Fd a.block) (hlen : s.pages.length = yl c.length (zH d.size)) (hpen : d.pen.length <= 900000) (slot : Int) :
  Calls Tryz.prog 95 #[.pointer (some ⟨db, 0, none⟩), .pointer (some ⟨cb, 0, none⟩), .agg (sV s x).toArray, .int .i64 slot] w (Ret fun v w' => v = .int .i64 (yI d c s slot).2 /\ Step w db Fd (yI d c s slot).1 w') := by
 have hgeo := h.ok.geo
 obtain ⟨h8, _⟩ := zdp hgeo
 obtain ⟨hper1, hper2, _⟩ := jQ h8
 have hcl := hc.len
 have hFlt := h.lt
 have hPl := zbw c (zH d.size)
 have hnp : yl c.length (zH d.size) <= 4096 := by
  unfold yl
  rw [Nat.div_le_iff_le_mul_add_pred (by omega)]
  have : 4096 * 56 <= 4096 * zH d.size := Nat.mul_le_mul_left _ hper1
  have : zH d.size * 4096 = 4096 * zH d.size := Nat.mul_comm _ _
  omega
 apply zn8
 unfold S95 yI
 refine zr fun r1 w1 hb1 he1 hr1 hz1 => ?_
 have hb1 : Blk w1 r1 (sV s x) 79 := hb1
 refine zb (zhx (hc.ext he1) h8) ?_
 rintro _ w2 ⟨y, rfl, ho2, he2⟩
 refine ⟨y, rfl, ?_⟩
 have hb1 := hb1.ext he2
 have he := he1.trans he2
 have hr1lt := hb1.lt
 have hyl := ho2.len
 have hpl := hp.len
 have hp2 := hp.ext he
 generalize hL : xn s.gen s.pages (zQ c (zH d.size)) = L at *
 have hLl : L.length = y.2.1 := by rw [<- hL, zhG (by omega)]; exact hyl
 have hy1 : ∀ j, orow y.1 = some j -> w1.heap.size <= j /\ j < w2.heap.size := fun j hj => ⟨ho2.row j hj, ho2.yc j hj⟩
 refine zx (fun y' w' => ∃ (i : Nat) (di : Dev) (Fi : Nat -> Prop), i <= y.2.1 /\ y' = ((i : Int), ()) /\ xb w' db di Fi /\ (∀ k, Fi k -> Fd k \/ w2.heap.size <= k) /\ Only Fd w2 w' /\ wrL d L = wrL di (L.drop i) /\ di.size = d.size /\ di.pen.length <= d.pen.length + i) (fun y' => (y.2.1 - y'.1).toNat)
  ⟨0, d, Fd, by omega, rfl, h.ext he, fun k hk => .inl hk, Only.refl _ _, rfl, rfl, by omega⟩ ?_
 rintro _ w3 ⟨i, di, Fi, hi, rfl, hDi, hFi, hOi, hwr, hdz, hdp⟩
 dsimp only
 have hnFi : ∀ j, w.heap.size <= j -> j < w2.heap.size -> ¬ Fi j := fun j h1 h2 hf' => by
  rcases hFi j hf' with e | e
  ·have := hFlt j e; omega
  ·omega
 have hnFd : ∀ j, w.heap.size <= j -> ¬ Fd j := fun j h1 hf' => by have := hFlt j hf'; omega
 have hb3 := hb1.only hOi (hnFd r1 (by omega))
 have hz := he1.size
 have ho3 := ho2.only hOi (fun j hj => hnFd j (by have := hy1 j hj; omega))
 have hp3 : Pg w3 x s.pages := ⟨hp2.sl.only hOi hx, hp2.nc⟩
 have oi : Only Fd w w3 := Only.trans (Only.zG he) hOi (fun j hj => .inl hj)
 have hFi' : ∀ k, Fi k -> Fd k \/ w.heap.size <= k := fun k hk => by
  rcases hFi k hk with e | e
  ·exact .inl e
  ·exact .inr (Nat.le_trans he.size e)
 by_cases hlt : i < y.2.1
 ·refine zf (decide_eq_true (by omega)) ?_
  refine zh7 ho3.sl (by omega) (by omega) ?_
  rw [Int.toNat_natCast]
  refine zK fun w4 he4 _ _ => ?_
  refine zn (l := .slc) 4 x (hb3.ext he4) (by rfl) ?_
  refine zR (hp3.sl.ext he4) (by omega) (by omega) ?_
  rw [Int.toNat_natCast]
  refine zE (s.gen : Int) (hb3.ext he4) (by rfl) ?_
  have hpi := hf.at_ i
  refine zb (zb9 (hDi.ext he4) (s.pages.getD i 0) hpi ((2 : UInt8), s.gen, (zQ c (zH d.size)).getD i ByteArray.empty) hf.gen (by omega)) ?_
  rintro _ w5 ⟨rfl, hst⟩
  refine ⟨_, rfl, ?_⟩
  have eL : L.drop i = (s.pages.getD i 0, ((2 : UInt8), s.gen, (zQ c (zH d.size)).getD i ByteArray.empty)) :: L.drop (i + 1) := by
   have := zgE (gen := s.gen) (ps := s.pages) (l := zQ c (zH d.size)) (by omega) (i := i) (by omega)
   rw [hL] at this
   obtain ⟨h1, h2⟩ := List.getElem?_eq_some_iff.1 this
   rw [List.drop_eq_getElem_cons h1, h2]
  rw [eL] at hwr
  have hst' : Step w3 db Fi _ w5 := Step.pre (Only.zG he4) (fun k hk => .inl hk) hst
  have hdim := vU di (s.pages.getD i 0) ((2 : UInt8), s.gen, (zQ c (zH d.size)).getD i ByteArray.empty)
  refine zg (fun hq => ?_) (fun hq => ?_)
  ·have hq := bne_iff_ne.1 hq
   have e1 : wrL d L = yj di (s.pages.getD i 0) ((2 : UInt8), s.gen, (zQ c (zH d.size)).getD i ByteArray.empty) := by
    rw [hwr, wrL, if_pos hq]
   rw [e1, if_pos hq]
   exact ⟨rfl, Step.pre oi hFi' hst'⟩
  ·have hq := bne_eq_false_iff_eq.1 hq
   obtain ⟨F5, g1, g2, g3⟩ := hst'
   refine ⟨⟨i + 1, _, F5, by omega, by rw [wrap_i64 (by omega) (by omega)]; rfl, g1, fun k hk => ?_, Only.trans hOi g3 hFi, by rw [hwr, wrL, if_neg (fun hh => hh hq)], hdim.1.trans hdz, by omega⟩, by rw [wrap_i64 (by omega) (by omega)]; omega⟩
   rcases g2 k hk with e | e
   ·exact hFi k e
   ·exact .inr (Nat.le_trans hOi.2.2.2.1 e)
 obtain rfl : i = y.2.1 := by omega
 refine zc (decide_eq_false (by omega)) ?_
 rw [List.drop_of_length_le (by omega), wrL] at hwr
 rw [hwr, if_neg (fun hh => hh rfl)]
 dsimp only
 refine zb (zcS hDi) ?_
 rintro _ w4 ⟨rfl, hst⟩
 refine ⟨_, rfl, ?_⟩
 refine zg (fun hq => ?_) (fun hq => ?_)
 ·have hq := bne_iff_ne.1 hq
  rw [if_pos hq]
  exact ⟨rfl, Step.pre oi hFi' hst⟩
 have hq := bne_eq_false_iff_eq.1 hq
 rw [if_neg (fun hh => hh hq)]
 obtain ⟨F4, g1, g2, g3⟩ := hst
 have hF4 : ∀ k, F4 k -> Fd k \/ w2.heap.size <= k := fun k hk => by
  rcases g2 k hk with e | e
  ·exact hFi k e
  ·exact .inr (Nat.le_trans hOi.2.2.2.1 e)
 have hF4' : ∀ k, F4 k -> Fd k \/ w.heap.size <= k := fun k hk => by
  rcases hF4 k hk with e | e
  ·exact .inl e
  ·exact .inr (Nat.le_trans he.size e)
 have o4 : Only Fd w w4 := Only.trans oi g3 hFi'
 have o24 : Only Fd w2 w4 := Only.trans hOi g3 hFi
 have hb4 := hb1.only o24 (hnFd r1 (by omega))
 have hp4 : Pg w4 x s.pages := ⟨hp2.sl.only o24 hx, hp2.nc⟩
 have hfd := vG di
 refine zW (ls := sLs) (sT s x) hb4 rfl ?_
 refine zb (zi4 hf hp4) ?_
 rintro _ w5 ⟨rfl, he5⟩
 refine ⟨(⟨(xu s).1.toArray⟩, (xu s).2, ()), rfl, ?_⟩
 have o5 : Only Fd w w5 := Only.trans o4 (Only.zG (F := Fd) he5) (fun j hj => .inl hj)
 refine zg (fun hq => ?_) (fun hq => ?_)
 ·have hq := bne_iff_ne.1 hq
  rw [if_pos hq]
  exact ⟨rfl, Step.pre o5 hF4' ⟨F4, g1.ext he5, fun k hk => .inl hk, Only.refl _ _⟩⟩
 have hq := bne_eq_false_iff_eq.1 hq
 rw [if_neg (fun hh => hh hq)]
 refine zb (zad (g1.ext he5) slot (mkB (xu s).1) (by omega)) ?_
 rintro _ w6 ⟨rfl, hst⟩
 refine ⟨_, rfl, ?_⟩
 refine zg (fun hq => ?_) (fun hq => ?_)
 ·have hq := bne_iff_ne.1 hq
  rw [if_pos hq]
  exact ⟨rfl, Step.pre o5 hF4' hst⟩
 have hq := bne_eq_false_iff_eq.1 hq
 rw [if_neg (fun hh => hh hq)]
 obtain ⟨F6, k1, k2, k3⟩ := hst
 have hF6' : ∀ k, F6 k -> Fd k \/ w.heap.size <= k := fun k hk => by
  rcases k2 k hk with e | e
  ·exact hF4' k e
  ·exact .inr (Nat.le_trans o5.2.2.2.1 e)
 refine zb (zcS k1) ?_
 rintro _ w7 ⟨rfl, hst⟩
 exact ⟨_, rfl, rfl, Step.pre (Only.trans o5 k3 hF4') hF6' hst⟩
end V
/- Contracts of the package space: Format. -/
namespace V
open Go Go.Proofs Go.RowKit Crc
def zF (size : Int) (N : Nat) : Nat := yl N (zH size)
def xw (np : Nat) : List Nat := (List.range np).map (· + 2)
def yf (N np : Nat) : List Nat := List.replicate (2 + np) 1 ++ List.replicate (N - 2 - np) 0
def yW (size : Int) (N : Nat) : Sup := ⟨1, size, (N : Int), 0, xw (zF size N)⟩
def yv (d : Dev) : Dev × Int :=
 if chk (yW d.size d.blocks.toNat) ≠ 0 then (d, chk (yW d.size d.blocks.toNat))
 else if (d.write 1 (yw d.size.toNat)).2 ≠ 0 then d.write 1 (yw d.size.toNat)
 else yI (d.write 1 (yw d.size.toNat)).1 (yf d.blocks.toNat (zF d.size d.blocks.toNat)) (yW d.size d.blocks.toNat) 0
def qi (d : Dev) : Spa := ⟨(yv d).1, yW d.size d.blocks.toNat, 0, yf d.blocks.toNat (zF d.size d.blocks.toNat), yf d.blocks.toNat (zF d.size d.blocks.toNat), none⟩
theorem zaF {size : Int} {N : Nat} (h : zT size N = true) : zF size N + 2 <= N /\ N <= 4096 /\ 1 <= zF size N := by
 obtain ⟨h8, n, hn, h1, h2⟩ := zdp h
 obtain rfl : N = n := by omega
 obtain ⟨hp1, hp2, _⟩ := jQ h8
 have hx : yl N (zH size) <= (N + 55) / 56 := by
  unfold yl
  rw [Nat.div_le_iff_le_mul_add_pred (by omega)]
  have h3 : N + 55 < 56 * ((N + 55) / 56 + 1) := Nat.lt_mul_div_succ _ (by omega)
  have h4 : 56 * ((N + 55) / 56) <= zH size * ((N + 55) / 56) := Nat.mul_le_mul_right _ hp1
  omega
 have h0 : 0 < yl N (zH size) := by
  have := (ux (n := N) (k := zH size) (i := 0) (by omega)).2 (by omega)
  exact this
 unfold zF
 omega
theorem qM {N np : Nat} (h : np + 2 <= N) : (yf N np).length = N := by simp [yf]; omega
theorem kz {N np k : Nat} (h : np + 2 <= N) : (yf N np).getD k 0 = if k < np + 2 then 1 else 0 := by
 unfold yf
 rw [List.getD_eq_getElem?_getD]
 by_cases hk : k < np + 2
 ·rw [if_pos hk, List.getElem?_append_left (by simp; omega), List.getElem?_replicate, if_pos (by omega)]
  rfl
 ·rw [if_neg hk, List.getElem?_append_right (by simp; omega), List.getElem?_replicate]
  split <;> rfl
theorem zki {N : Nat} (h : 2 <= N) : yf N 0 = zb5 N := by
 unfold yf zb5
 rfl
theorem zkj {N i : Nat} (h : i + 3 <= N) : takeN (yf N i) [] = i + 2 /\ yM (yf N i) [] = 0 /\ yN (yf N i) [] = yf N (i + 1) := by
 have hl := qM (N := N) (np := i) (by omega)
 have ht : zB (yf N i) [] = i + 2 := by
  unfold zB
  rw [hl]
  refine zea (by omega) (jR.2 ⟨?_, by simp⟩) (fun j hj => ?_)
  ·rw [kz (by omega), if_neg (by omega)]
  ·cases hq : qz (yf N i) [] j with
   | false => rfl
   | true =>
    have := (jR.1 hq).1
    rw [kz (by omega), if_pos (by omega)] at this
    cases this
 refine ⟨?_, ?_, ?_⟩
 ·unfold takeN; rw [ht, if_pos (by omega)]
 ·unfold yM; rw [ht, if_pos (by omega)]
 ·unfold yN
  rw [ht, if_pos (by omega)]
  refine qs (by rw [List.length_set, hl, qM (by omega)]) (fun k => ?_)
  rw [ym, kz (by omega), kz (by omega), hl]
  by_cases hk : i + 2 = k
  ·subst hk
   rw [if_pos ⟨rfl, by omega⟩, if_pos (by omega)]
  ·rw [if_neg (fun e => hk e.1)]
   by_cases hk2 : k < i + 2
   ·rw [if_pos hk2, if_pos (by omega)]
   ·rw [if_neg hk2, if_neg (by omega)]
theorem zkk (i : Nat) : xw (i + 1) = xw i ++ [i + 2] := by simp [xw, List.range_succ]
theorem j8 (i : Nat) : (xw i).length = i := by simp [xw]
theorem zcb {size : Int} {N : Nat} (h : zT size N = true) : (yW size N).Fits := by
 have hd := za4 h
 have := zaF h
 refine ⟨by show 1 < _; omega, by show _ <= size /\ size < _; omega, by show _ <= (N : Int) /\ (N : Int) < _; omega, by show 0 < _; omega, fun p hp => ?_⟩
 have hp : p ∈ xw (zF size N) := hp
 unfold xw at hp
 obtain ⟨i, hi, rfl⟩ := List.mem_map.1 hp
 have := List.mem_range.1 hi
 omega
theorem zaj (d : Dev) (c : List Nat) (s : Sup) (slot : Int) : (yI d c s slot).1.size = d.size /\ (yI d c s slot).1.blocks = d.blocks := by
 have h1 := zcz (xn s.gen s.pages (zQ c (zH d.size))) d
 have h2 := vG (wrL d (xn s.gen s.pages (zQ c (zH d.size)))).1
 have h3 := jE (wrL d (xn s.gen s.pages (zQ c (zH d.size)))).1.flush.1 slot (mkB (xu s).1)
 have h4 := vG ((wrL d (xn s.gen s.pages (zQ c (zH d.size)))).1.flush.1.write slot (mkB (xu s).1)).1
 unfold yI
 split
 ·exact ⟨h1.1, h1.2.1⟩
 split
 ·exact ⟨h2.1.trans h1.1, h2.2.1.trans h1.2.1⟩
 split
 ·exact ⟨h2.1.trans h1.1, h2.2.1.trans h1.2.1⟩
 split
 ·exact ⟨h3.1.trans (h2.1.trans h1.1), h3.2.1.trans (h2.2.1.trans h1.2.1)⟩
 ·exact ⟨h4.1.trans (h3.1.trans (h2.1.trans h1.1)), h4.2.1.trans (h3.2.1.trans (h2.2.1.trans h1.2.1))⟩
theorem zgG {w : World} {db : Nat} {d : Dev} {Fd : Nat -> Prop} (h : xb w db d Fd) (hpen : d.pen.length <= 800000) :
  Calls Tryz.prog 69 #[.pointer (some ⟨db, 0, none⟩)] w (Ret fun v w' => ((yv d).2 ≠ 0 /\ v = .tuple #[.pointer none, .int .i64 (yv d).2] /\ Step w db Fd (yv d).1 w') \/
   ((yv d).2 = 0 /\ ∃ b F, v = .tuple #[.pointer (some ⟨b, 0, none⟩), .int .i64 0] /\ ya w' b db (qi d) F /\ w.heap.size <= b /\ (∀ k, F k -> Fd k \/ w.heap.size <= k) /\ Only Fd w w')) := by
 have hgeo := h.ok.geo
 obtain ⟨h8, N, hN, hN8, hNm⟩ := zdp hgeo
 have hNt : d.blocks.toNat = N := by omega
 have hg' : zT d.size (N : Int) = true := by rw [<- hN]; exact hgeo
 obtain ⟨hnp1, hnp2, hnp3⟩ := zaF hg'
 have hdim := za4 hgeo
 have hFlt := h.lt
 have hff := zcb hg'
 apply znN
 unfold S69 yv
 rw [hNt]
 refine zc (by rfl) ?_
 refine zb (vD h) ?_
 rintro _ w1 ⟨rfl, he1⟩
 refine ⟨(d.size, d.blocks, ()), rfl, ?_⟩
 refine zb (zkc w1 d.size d.blocks) ?_
 rintro _ w2 ⟨y, rfl, hc2, he2⟩
 rw [if_pos hgeo] at hc2
 obtain ⟨cb, cr, rfl, hc2, hcb, hcr⟩ := hc2
 refine ⟨(some ⟨cb, 0, none⟩, (if zT d.size d.blocks then 0 else 2), ()), rfl, ?_⟩
 rw [if_pos hgeo]
 dsimp only
 refine zc (by rfl) ?_
 rw [hNt, <- zki (by omega)] at hc2
 have he := he1.trans he2
 refine zb (vD (h.ext he)) ?_
 rintro _ w3 ⟨rfl, he3⟩
 refine ⟨(d.size, d.blocks, ()), rfl, ?_⟩
 have he3' := he.trans he3
 refine zo0 (s := ⟨1, d.size, d.blocks, 0, []⟩) (x := (none, 0, 0)) (by rfl) (fun r4 w4 hb4 he4 hr4 => ?_)
 have he4' := he3'.trans he4
 refine zb (vD (h.ext he4')) ?_
 rintro _ w5 ⟨rfl, he5⟩
 refine ⟨(d.size, d.blocks, ()), rfl, ?_⟩
 refine zb (zgy w5 d.size d.blocks) ?_
 rintro _ w6 ⟨rfl, he6⟩
 rw [hN, zjf hg']
 refine ⟨_, rfl, ?_⟩
 have he46 := he5.trans he6
 have he6' := he4'.trans he46
 have hb6 := hb4.ext he46
 have hc6 := ((hc2.ext he3).ext he4).ext he46
 have hr4lt : r4 < w6.heap.size := hb6.lt
 have hcblt : cb < w3.heap.size := (hc2.ext he3).head.lt
 have hcrlt : cr < w3.heap.size := (hc2.ext he3).row.lt
 have hs1 := he1.size
 have hs3 := he3.size
 have hs2 := he2.size
 rw [hN] at hb6
 show zD _ _ _ w6
 have hnpe : zF d.size N = yl N (zH d.size) := rfl
 rw [<- hnpe]
 refine zx (fun y w' => ∃ (i : Nat) (A : Option Addr) (c : Nat), i <= zF d.size N /\ y = ((i : Int), ()) /\ Ext w w' /\ w6.heap.size <= w'.heap.size /\ Cnt w' cb cr d.size [] (yf N i) /\ Blk w' r4 (sV ⟨1, d.size, (N : Int), 0, []⟩ (A, i, c)) 79 /\ Owni (zu .u32) 41 w' w6.heap.size A i c (xw i)) (fun y => (zF d.size N - y.1).toNat)
  ⟨0, none, 0, by omega, rfl, he6', Nat.le_refl _, hc6, hb6, Owni.nil _ _ _⟩ ?_
 rintro _ w7 ⟨i, A, c, hi, rfl, he7, hz7, hc7, hb7, ho7⟩
 dsimp only
 by_cases hlt : i < zF d.size N
 ·refine zf (decide_eq_true (by omega)) ?_
  obtain ⟨t1, t2, t3⟩ := zkj (N := N) (i := i) (by omega)
  refine zb (zd7 hc7 (.inl ⟨rfl, rfl⟩)) ?_
  rintro _ w8 ⟨rfl, hc8, hg8⟩
  rw [t3] at hc8
  refine ⟨(((takeN (yf N i) [] : Nat) : Int), yM (yf N i) [], ()), rfl, ?_⟩
  rw [t1, t2]
  refine zc (by rfl) ?_
  have hb8 := hb7.grown hg8 (by simp; omega)
  have ho8 := ho7.grown hg8 (fun j hj e => by injection hj with hj; subst hj; have := ho7.row _ e; omega)
  refine zn (l := .slc) 4 (A, i, c) hb8 (by rfl) ?_
  dsimp only
  have hle := ho8.le
  refine yZ (E := zu .u32) (ys := [i + 2]) (by rfl) rfl jD ho8 (by have := hg8.size; omega) (by omega) (by omega) ?_
  intro A' c' w9 ho9 hg9
  have hx9 : ∀ j, orow A = some j -> w6.heap.size <= j := fun j hj => ho8.row j hj
  have hb9 := hb8.grown hg9.grown (fun e => by have := hx9 r4 e.symm; omega)
  have hc9 : Cnt w9 cb cr d.size [] (yf N (i + 1)) := ⟨hc8.head.grown hg9.grown (fun e => by have := hx9 cb e.symm; have := he4.size; have := he46.size; omega), hc8.row.grown hg9.grown (fun e => by have := hx9 cr e.symm; have := he4.size; have := he46.size; omega), hc8.ne, hc8.len, hc8.fits⟩
  have he9 : Ext w w9 := (he7.grown hg8 (fun j hj => by injection hj with hj; omega)).grown hg9.grown (fun j hj => by have := hx9 j hj; have := he6'.size; omega)
  rw [zz]
  refine zO hb9 (by show 0 + 4 < 5; omega) ?_
  have hg10 := yF w9 r4 (0 + 4) (.slice A' (i + 1) c')
  have hb10 := hb9.set (0 + 4) (.slice A' (i + 1) c')
  refine ⟨⟨i + 1, A', c', by omega, by rw [wrap_i64 (by omega) (by omega)]; rfl, he9.grown hg10 (fun j hj => by injection hj with hj; omega), ?_, hc9.kept hg10 (by omega) (by omega), hb10, ?_⟩, by rw [wrap_i64 (by omega) (by omega)]; omega⟩
  ·exact Nat.le_trans (Nat.le_trans (Nat.le_trans hz7 hg8.size) hg9.grown.size) hg10.size
  ·rw [zkk]
   exact ho9.grown hg10 (fun j hj e => by injection hj with hj; have := ho9.row _ e; omega)
 obtain rfl : i = zF d.size N := by omega
 refine zc (decide_eq_false (by omega)) ?_
 have hb7 : Blk w7 r4 (sV (yW d.size N) (A, zF d.size N, c)) 79 := hb7
 have hpg7 : Pg w7 (A, zF d.size N, c) (yW d.size N).pages := ⟨ho7.sl, ho7.le.1⟩
 have stay : ∀ {w' : World}, Ext w w' -> Step w db Fd d w' := fun e => ⟨Fd, h.ext e, fun k hk => .inl hk, Only.zG e⟩
 refine zW (ls := sLs) (sT (yW d.size N) (A, zF d.size N, c)) hb7 rfl ?_
 refine zb (zcU hff hpg7) ?_
 rintro _ w8 ⟨rfl, he8⟩
 refine ⟨_, rfl, ?_⟩
 have he8' := he7.trans he8
 refine zg (fun hq => ?_) (fun hq => ?_)
 ·have hq := bne_iff_ne.1 hq
  rw [if_pos hq]
  exact .inl ⟨hq, rfl, stay he8'⟩
 have hq0 := bne_eq_false_iff_eq.1 hq
 rw [if_neg (fun hh => hh hq0)]
 refine zb (vD (h.ext he8')) ?_
 rintro _ w9 ⟨rfl, he9⟩
 refine ⟨(d.size, d.blocks, ()), rfl, ?_⟩
 dsimp only
 obtain ⟨z, hz⟩ : ∃ z : Nat, d.size = (z : Int) := ⟨d.size.toNat, by omega⟩
 rw [hz]
 refine zaR (kl := .i64) (kc := .i64) (B := w9.heap.size) (z := .int .u8 0) (bytes := 1) qq (by rfl) (Nat.le_refl _) (by omega) (by omega) ?_
 intro w10 ho10 hg10
 have he10 : Ext w9 w10 := (Ext.refl w9).grown hg10 (fun j hj => by cases hj)
 have hrep : (List.replicate z (Value.int .u8 0)) = bV (List.replicate z 0) := by simp [bV]
 rw [hrep] at ho10
 refine qI (e := 5) (by kernel_rfl) (by kernel_rfl) (by kernel_rfl) ho10.sl ?_
 have hzb : (⟨(List.replicate z (0 : UInt8)).toArray⟩ : ByteArray) = yw d.size.toNat := by rw [hz]; rfl
 rw [hzb]
 have he810 := he9.trans he10
 have he10' := he8'.trans he810
 refine zb (zad (h.ext he10') 1 (yw d.size.toNat) (by omega)) ?_
 rintro _ w11 ⟨rfl, hst⟩
 refine ⟨_, rfl, ?_⟩
 rw [<- hz]
 refine zg (fun hq => ?_) (fun hq => ?_)
 ·have hq := bne_iff_ne.1 hq
  rw [if_pos hq]
  exact .inl ⟨hq, rfl, Step.pre (Only.zG he10') (fun k hk => .inl hk) hst⟩
 have hq1 := bne_eq_false_iff_eq.1 hq
 rw [if_neg (fun hh => hh hq1)]
 obtain ⟨F11, k1, k2, k3⟩ := hst
 have hwd := jE d 1 (yw d.size.toNat)
 have hFd : ∀ j, w.heap.size <= j -> ¬ Fd j := fun j hj hf => by have := hFlt j hf; omega
 have he78 : Ext w7 w10 := he8.trans he810
 have he4s := he4.size
 have he46s := he46.size
 have hw6 := he6'.size
 have hb11 := (hb7.ext he78).only k3 (hFd r4 (by omega))
 have hc11 := (hc7.ext he78).only k3 (hFd cb (by omega)) (hFd cr (by omega))
 have hArow : ∀ a, A = some a -> w6.heap.size <= a.block := fun a ha => ho7.row _ (by rw [ha]; rfl)
 have hArow2 : ∀ a, A = some a -> a.block < w7.heap.size := fun a ha => ho7.yc _ (by rw [ha]; rfl)
 have hp11 : Pg w11 (A, zF d.size N, c) (yW d.size N).pages := ⟨(hpg7.sl.ext he78).only k3 (fun a ha => hFd _ (by have := hArow a ha; omega)), hpg7.nc⟩
 have h710 : w7.heap.size <= w10.heap.size := he78.size
 have o11 : Only Fd w w11 := Only.trans (Only.zG he10') k3 (fun j hj => .inl hj)
 have hF11w : ∀ k, F11 k -> Fd k \/ w.heap.size <= k := fun k hk => by
  rcases k2 k hk with e | e
  ·exact .inl e
  ·exact .inr (Nat.le_trans he10'.size e)
 have hF11 : ∀ j, w.heap.size <= j -> j < w10.heap.size -> ¬ F11 j := fun j h1 h2 hf => by
  rcases k2 j hf with e | e
  ·exact hFd j h1 e
  ·omega
 refine zW (ls := sLs) (sT (yW d.size N) (A, zF d.size N, c)) hb11 rfl ?_
 have hfl := qM (N := N) (np := zF d.size N) hnp1
 refine zb (zgF k1 (c := yf N (zF d.size N)) (by rw [hwd.1]; exact hc11) hff hp11 (fun a ha => hF11 _ (by have := hArow a ha; omega) (by have := hArow2 a ha; omega)) (by rw [hwd.1, hfl]; exact j8 _) (by omega) 0) ?_
 rintro _ w12 ⟨rfl, hst⟩
 refine ⟨_, rfl, ?_⟩
 refine zg (fun hq => ?_) (fun hq => ?_)
 ·have hq := bne_iff_ne.1 hq
  exact .inl ⟨hq, rfl, Step.pre o11 hF11w hst⟩
 have hq2 := bne_eq_false_iff_eq.1 hq
 obtain ⟨F12, m1, m2, m3⟩ := hst
 have hF12 : ∀ j, w.heap.size <= j -> j < w10.heap.size -> ¬ F12 j := fun j h1 h2 hf => by
  rcases m2 j hf with e | e
  ·exact hF11 j h1 h2 e
  ·have := k3.2.2.2.1; omega
 have hF12w : ∀ k, F12 k -> Fd k \/ w.heap.size <= k := fun k hk => by
  rcases m2 k hk with e | e
  ·exact hF11w k e
  ·exact .inr (Nat.le_trans o11.2.2.2.1 e)
 have h4r : r4 < w10.heap.size := by omega
 have hb12 := hb11.only m3 (hF11 r4 (by omega) (by omega))
 have hc12 := hc11.only m3 (hF11 cb (by omega) (by omega)) (hF11 cr (by omega) (by omega))
 have hp12 : Pg w12 (A, zF d.size N, c) (yW d.size N).pages := ⟨hp11.sl.only m3 (fun a ha => hF11 _ (by have := hArow a ha; omega) (by have := hArow2 a ha; omega)), hp11.nc⟩
 have o12 : Only Fd w w12 := Only.trans o11 m3 hF11w
 refine zK fun w13 he13 hs13 _ => ?_
 refine zW (ls := sLs) (sT (yW d.size N) (A, zF d.size N, c)) (hb12.ext he13) rfl ?_
 refine zb (zeI (hc12.ext he13)) ?_
 rintro _ w14 ⟨⟨b2, r2, q2, rfl, hc14, hb2, hr2⟩, he14⟩
 refine ⟨some ⟨b2, 0, none⟩, rfl, ?_⟩
 have he1314 := he13.trans he14
 have hb14 := hb12.ext he1314
 refine ⟨fun l hl p hp => ?_, ?_⟩
 ·simp only [List.mem_singleton] at hl
  subst hl
  simp only [List.mem_cons, List.not_mem_nil, or_false] at hp
  rcases hp with rfl | rfl | rfl | rfl | rfl
  ·exact (hb14.cell 0).trans rfl
  ·exact (hb14.cell 1).trans rfl
  ·exact (hb14.cell 2).trans rfl
  ·exact (hb14.cell 3).trans rfl
  ·exact (hb14.cell 4).trans rfl
 refine zr fun r23 w15 hb15 he15 hr15 hz15 => ?_
 have hx15 := he1314.trans he15
 have o15 : Only Fd w w15 := Only.trans o12 (Only.zG (F := Fd) hx15) (fun j hj => .inl hj)
 have hcD := hc14.head.lt
 have hcD2 := hc14.row.lt
 have hm1lt := m1.lt
 have h1012 : w10.heap.size <= w12.heap.size := Nat.le_trans k3.2.2.2.1 m3.2.2.2.1
 have hs14 := he14.size
 have hne := hc2.ne
 have hne2 := hc14.ne
 have es : (yI (d.write 1 (yw d.size.toNat)).1 (yf N (zF d.size N)) (yW d.size N) 0).1.size = d.size /\ (yI (d.write 1 (yw d.size.toNat)).1 (yf N (zF d.size N)) (yW d.size N) 0).1.blocks = d.blocks := by
  have := zaj (d.write 1 (yw d.size.toNat)).1 (yf N (zF d.size N)) (yW d.size N) 0
  exact ⟨this.1.trans hwd.1, this.2.trans hwd.2.1⟩
 have eF : qi d = ⟨(yI (d.write 1 (yw d.size.toNat)).1 (yf N (zF d.size N)) (yW d.size N) 0).1, yW d.size N, 0, yf N (zF d.size N), yf N (zF d.size N), none⟩ := by
  unfold qi yv
  rw [hNt, if_neg (fun hh => hh hq0), if_neg (fun hh => hh hq1)]
 refine .inr ⟨hq2, r23, fun k => F12 k \/ k ∈ yJ r23 cb cr b2 r2 (A, zF d.size N, c) none, rfl, ?_, by omega, ?_, o15⟩
 ·rw [eF]
  have hA2 : ∀ k, k ∈ zae (A, zF d.size N, c) -> w6.heap.size <= k /\ k < w7.heap.size := by
   intro k hk
   unfold zae at hk
   cases A with
   | none => simp at hk
   | some a =>
    simp only [Option.map_some, Option.toList_some, List.mem_singleton] at hk
    subst hk
    exact ⟨hArow a rfl, hArow2 a rfl⟩
  have hrn : (zae (A, zF d.size N, c)).Nodup := by
   unfold zae
   cases A <;> simp
  refine ⟨F12, (A, zF d.size N, c), cb, cr, b2, r2, none, ⟨⟨_, by exact hb15⟩, m1.ext hx15, hp12.ext hx15, ⟨[], hc12.ext hx15⟩, ⟨q2, hc14.ext he15⟩, trivial, fun _ => Iff.rfl, ?_, ?_, ?_, ⟨es.1.symm, ?_, hff, ?_, ?_, fun l hl => by cases hl⟩⟩⟩
  ·simp only [yJ, zb6, List.append_nil, List.nodup_cons, List.mem_cons, not_or]
   refine ⟨⟨by omega, by omega, by omega, by omega, fun hk => by have := hA2 _ hk; omega⟩, ⟨hne, by omega, by omega, fun hk => by have := hA2 _ hk; omega⟩, ⟨by omega, by omega, fun hk => by have := hA2 _ hk; omega⟩, ⟨hne2, fun hk => by have := hA2 _ hk; omega⟩, fun hk => by have := hA2 _ hk; omega, hrn⟩
  ·intro k hk hf
   have hkl := hm1lt k hf
   simp only [yJ, zb6, List.append_nil, List.mem_cons] at hk
   rcases hk with rfl | rfl | rfl | rfl | rfl | hk
   ·omega
   ·exact hF12 _ (by omega) (by omega) hf
   ·exact hF12 _ (by omega) (by omega) hf
   ·omega
   ·omega
   ·have := hA2 k hk
    exact hF12 _ (by omega) (by omega) hf
  ·intro k hk
   have := hA2 k hk
   have := hx15.size
   omega
  ·show (N : Int) = _
   rw [es.2, hN]
  ·show (yf N (zF d.size N)).length = ((N : Int)).toNat
   rw [hfl]; omega
  ·show (yf N (zF d.size N)).length = ((N : Int)).toNat
   rw [hfl]; omega
 ·rintro k (hk | hk)
  ·exact hF12w k hk
  ·right
   simp only [yJ, zb6, List.append_nil, List.mem_cons] at hk
   rcases hk with rfl | rfl | rfl | rfl | rfl | hk
   ·omega
   ·omega
   ·omega
   ·omega
   ·omega
   ·unfold zae at hk
    cases A with
    | none => simp at hk
    | some a =>
     simp only [Option.map_some, Option.toList_some, List.mem_singleton] at hk
     subst hk
     have := hArow a rfl
     omega
end V
/- Ranges over functions that make new blocks, and change their own, between what they yield. -/
namespace V
open Go
theorem Only.yr {F : Nat -> Prop} {w : World} {a : Nat} {o : Obj} (h : F a) : Only F w (yr w a o) :=
 ⟨rfl, rfl, rfl, by rw [xq]; exact Nat.le_refl _, fun k _ hk => zL (fun e => hk (by rw [<- e]; exact h))⟩
theorem Only.mono {F G : Nat -> Prop} {w w' : World} (h : Only F w w') (hF : ∀ k, F k -> G k) : Only G w w' := ⟨h.1, h.2.1, h.2.2.1, h.2.2.2.1, fun k hk hg => h.2.2.2.2 k hk (fun e => hg (hF k e))⟩
def zjg (P : Program) (v : Value) (L : List (List Value)) (R : WP) (Q : Nat -> Prop) (R0 E0 : WP) (Bp : World -> Nat -> Prop) : Prop :=
 ∃ f cap, v = .func (.func f) #[] cap /\ enterable P f = true /\ ∀ (l : Nat) (J : (Nat -> Prop) -> Nat -> WP) (E : (Nat -> Prop) -> WP) (w : World), J Q 0 w -> (∀ k, Q k -> k < w.heap.size) -> R0 w -> (∀ V i w', J V i w' -> R w') ->
  (∀ (V V' : Nat -> Prop) i w' w'', J V i w' -> Only V w' w'' -> (∀ k, V' k -> V k \/ w'.heap.size <= k) -> R w'' -> J V' i w'') -> (∀ (V V' : Nat -> Prop) w' w'', E V w' -> Only V w' w'' -> (∀ k, V' k -> V k \/ w'.heap.size <= k) -> E V' w'') ->
  (∀ (V : Nat -> Prop) i w' (h : i < L.length), J V i w' -> (∀ k, V k -> k < w'.heap.size) -> (∀ k, V k -> Bp w' k) -> jk P l L[i] w' fun v w'' => w'.heap.size <= w''.heap.size /\ (∀ k, V k -> w''.heap[k]? = w'.heap[k]?) /\
   ((v = .bool true /\ R w'' /\ J V (i + 1) w'') \/ (v = .bool false /\ E V w''))) ->
  Calls P f (.func (.yield l) #[] #[] :: cap.toList).toArray w (Ret fun _ w' => ∃ V : Nat -> Prop, (J V L.length w' /\ (∀ k, V k -> Q k \/ w.heap.size <= k) /\ E0 w') \/ E V w')
def zpy (w : World) (k : Nat) : Prop := ∀ o, w.heap[k]? = some o -> ∀ c t fz, o ≠ .cells c t fz
theorem zgH {P : Program} {v : Value} {T : Type} {vals : T -> List Value} {Body : T -> (WP -> WP) -> WP -> (Code -> WP) -> WP} {done : Nat -> Option Code -> WP} {w : World} {L : List (List Value)} {R : WP} {Q : Nat -> Prop} {R0 E0 : WP} {Bp : World -> Nat -> Prop} (tv : Nat -> T) (htv : ∀ i (hi : i < L.length), vals (tv i) = L[i])
  (I : (Nat -> Prop) -> Nat -> WP) (D : (Nat -> Prop) -> Code -> WP)
  (hit : zjg P v L R Q R0 E0 Bp) (hQ : ∀ k, Q k -> k < w.heap.size)
  (hRst : ∀ w' w'', yO w.heap.size (w.heap.size + 1) w' w'' -> R w' -> R w'')
  (hEst : ∀ w' w'', yO w.heap.size (w.heap.size + 1) w' w'' -> E0 w' -> E0 w'')
  (hR : ∀ V i w', I V i w' -> R w')
  (hI : ∀ (V V' : Nat -> Prop) i w' w'', I V i w' -> Only (fun k => V k \/ k = w.heap.size \/ k = w.heap.size + 1) w' w'' -> (∀ k, V' k -> V k \/ w'.heap.size <= k) -> R w'' -> I V' i w'')
  (hD : ∀ (V V' : Nat -> Prop) c w' w'', D V c w' -> Only (fun k => V k \/ k = w.heap.size \/ k = w.heap.size + 1) w' w'' -> (∀ k, V' k -> V k \/ w'.heap.size <= k) -> D V' c w'')
  (h0 : ∀ o, I Q 0 ((w.alloc (.deferred (some []))).alloc o)) (h00 : ∀ o, R0 ((w.alloc (.deferred (some []))).alloc o))
  (hbody : ∀ (V : Nat -> Prop) (i : Nat) (hi : i < L.length) (w' : World) (G : WP -> WP) (N : WP) (jump : Code -> WP), I V i w' -> w.heap.size + 2 <= w'.heap.size -> (∀ k, V k -> k < w'.heap.size /\ k ≠ w.heap.size /\ k ≠ w.heap.size + 1) -> (∀ k, V k -> Bp w' k) ->
   (∀ (K : WP) w1, I V i w1 -> w'.heap.size <= w1.heap.size -> (∀ k, k = w.heap.size \/ k = w.heap.size + 1 \/ V k -> w1.heap[k]? = w'.heap[k]?) -> (∀ w2, I V i w2 -> w1.heap.size = w2.heap.size -> (∀ k : Nat, k ≠ w.heap.size -> k ≠ w.heap.size + 1 -> w2.heap[k]? = w1.heap[k]?) -> (∀ k, k = w.heap.size \/ k = w.heap.size + 1 -> zpy w2 k) ->
    (∀ w'', R w'' -> I V (i + 1) w'' -> w2.heap.size <= w''.heap.size -> (∀ k, k = w.heap.size \/ k = w.heap.size + 1 \/ V k -> w''.heap[k]? = w2.heap[k]?) -> N w'') ->
    (∀ c w'', D V c w'' -> w2.heap.size <= w''.heap.size -> (∀ k, k = w.heap.size \/ k = w.heap.size + 1 \/ V k -> w''.heap[k]? = w2.heap[k]?) -> jump c w'') -> K w2) -> G K w1) ->
   Body (tv i) G N jump w')
  (hdone : ∀ V w', I V L.length w' -> E0 w' -> w.heap.size + 2 <= w'.heap.size -> w'.heap[w.heap.size]? = some (.deferred (some [])) -> done w.heap.size none w')
  (hjump : ∀ V c w', D V c w' -> w.heap.size + 2 <= w'.heap.size -> w'.heap[w.heap.size]? = some (.deferred (some [])) -> done w.heap.size (some c) w') :
  ji P v T vals Body done w := by
 obtain ⟨f, cap, rfl, hen, hcalls⟩ := hit
 refine ⟨f, cap, rfl, hen, fun rec hrec hY => ?_⟩
 have hlt : ∀ {w' : World} {o : Obj}, w'.heap[w.heap.size + 1]? = some o -> w.heap.size + 1 < w'.heap.size := fun h => (Array.getElem?_eq_some_iff.1 h).1
 have hs0 : ((w.alloc (.deferred (some []))).alloc (rec .ready none)).heap.size = w.heap.size + 2 := by
  show ((w.heap.push _).push _).size = _
  simp
 have hIs : ∀ {V : Nat -> Prop} {i : Nat} {w' : World} {o : Obj}, I V i w' -> I V i (yr w' (w.heap.size + 1) o) := fun h => hI _ _ _ _ _ h (Only.yr (.inr (.inr rfl))) (fun k hk => .inl hk) (hRst _ _ (zX (.inr rfl)) (hR _ _ _ h))
 refine Calls.mono (hcalls (w.heap.size + 1) (fun V i w' => I V i w' /\ w'.heap[w.heap.size + 1]? = some (rec .ready none) /\ w'.heap[w.heap.size]? = some (.deferred (some [])) /\ ∀ k, V k -> k ≠ w.heap.size /\ k ≠ w.heap.size + 1)
  (fun V w' => ∃ c, D V c w' /\ w'.heap[w.heap.size + 1]? = some (rec .done (some c)) /\ w'.heap[w.heap.size]? = some (.deferred (some [])) /\ ∀ k, V k -> k ≠ w.heap.size /\ k ≠ w.heap.size + 1) _ ⟨h0 _, ?_, ?_, fun k hk => by have := hQ k hk; omega⟩ (fun k hk => by have := hQ k hk; omega) (h00 _) (fun V i w' h => hR V i w' h.1) ?_ ?_ ?_) ?_
 ·show ((w.heap.push _).push _)[w.heap.size + 1]? = _
  rw [Array.getElem?_push]
  simp
 ·show ((w.heap.push _).push _)[w.heap.size]? = _
  rw [Array.getElem?_push, Array.getElem?_push]
  simp
 ·rintro V V' i w' w'' ⟨h1, h2, h3, h4⟩ hO hV hr
  have := hlt h2
  exact ⟨hI V V' i w' w'' h1 (hO.mono (fun k hk => .inl hk)) hV hr, (hO.2.2.2.2 _ (by omega) (fun e => (h4 _ e).2 rfl)).trans h2, (hO.2.2.2.2 _ (by omega) (fun e => (h4 _ e).1 rfl)).trans h3, fun k hk => by rcases hV k hk with e | e; exact h4 k e; omega⟩
 ·rintro V V' w' w'' ⟨c, h1, h2, h3, h4⟩ hO hV
  have := hlt h2
  exact ⟨c, hD V V' c w' w'' h1 (hO.mono (fun k hk => .inl hk)) hV, (hO.2.2.2.2 _ (by omega) (fun e => (h4 _ e).2 rfl)).trans h2, (hO.2.2.2.2 _ (by omega) (fun e => (h4 _ e).1 rfl)).trans h3, fun k hk => by rcases hV k hk with e | e; exact h4 k e; omega⟩
 ·rintro V i w' hi ⟨hIi, hl, hd, hVa⟩ hVs hVb
  let Qv : Bool -> WP := fun b w'' => w'.heap.size <= w''.heap.size /\ (∀ k, V k -> w''.heap[k]? = w'.heap[k]?) /\
   ((b = true /\ R w'' /\ I V (i + 1) w'' /\ w''.heap[w.heap.size + 1]? = some (rec .ready none) /\ w''.heap[w.heap.size]? = some (.deferred (some [])))
   \/ (b = false /\ ∃ c, D V c w'' /\ w''.heap[w.heap.size + 1]? = some (rec .done (some c)) /\ w''.heap[w.heap.size]? = some (.deferred (some []))))
  have hb := hbody V i hi w' (fun K w1 => w1.heap[w.heap.size + 1]? = some (rec .ready none) /\ K (yr w1 (w.heap.size + 1) (rec .busy none)))
   (fun w2 => w2.heap[w.heap.size + 1]? = some (rec .busy none) /\ Qv true (yr w2 (w.heap.size + 1) (rec .ready none)))
   (fun c w2 => w2.heap[w.heap.size + 1]? = some (rec .busy none) /\ Qv false (yr w2 (w.heap.size + 1) (rec .done (some c)))) hIi (by have := hlt hl; omega)
   (fun k hk => ⟨hVs k hk, hVa k hk⟩) hVb
   (fun K w1 hI1 hs1 hk1 hG => by
    have hl1 := hk1 (w.heap.size + 1) (.inr (.inl rfl))
    rw [hl] at hl1
    have hd1 := hk1 w.heap.size (.inl rfl)
    rw [hd] at hd1
    refine ⟨hl1, hG _ (hIs hI1) (by rw [xq]) (fun k h1 h2 => zL (fun e => h2 e.symm)) (fun k hk o ho c t fz e => ?_) ?_ ?_⟩
    ·rcases hk with rfl | rfl
     ·rw [zL (by omega), hd1] at ho
      injection ho with ho
      rw [<- ho] at e
      cases e
     ·rw [xF (hlt hl1)] at ho
      injection ho with ho
      rw [<- ho] at e
      exact hrec _ _ _ _ _ e
    ·intro w'' hR3 hI3 hs hk
     have h1 := hk (w.heap.size + 1) (.inr (.inl rfl))
     rw [xF (hlt hl1)] at h1
     have h2 := hk w.heap.size (.inl rfl)
     rw [zL (by omega), hd1] at h2
     refine ⟨h1, by rw [xq] at hs ⊢; omega, fun k hV => ?_, .inl ⟨rfl, hRst _ _ (zX (.inr rfl)) hR3, hIs hI3, xF (hlt h1), ?_⟩⟩
     ·have := hVa k hV
      rw [zL (by omega), hk k (.inr (.inr hV)), zL (by omega), hk1 k (.inr (.inr hV))]
     ·rw [zL (by omega)]; exact h2
    ·intro c w'' hDc hs hk
     have h1 := hk (w.heap.size + 1) (.inr (.inl rfl))
     rw [xF (hlt hl1)] at h1
     have h2 := hk w.heap.size (.inl rfl)
     rw [zL (by omega), hd1] at h2
     refine ⟨h1, by rw [xq] at hs ⊢; omega, fun k hV => ?_, .inr ⟨rfl, c, hD V V c _ _ hDc (Only.yr (.inr (.inr rfl))) (fun k hk => .inl hk), xF (hlt h1), ?_⟩⟩
     ·have := hVa k hV
      rw [zL (by omega), hk k (.inr (.inr hV)), zL (by omega), hk1 k (.inr (.inr hV))]
     ·rw [zL (by omega)]; exact h2)
  have := hY (tv i) w' Qv hl hb
  rw [htv i hi] at this
  obtain ⟨fn, tmps, asg, bd, h1, h2⟩ := this
  refine ⟨fn, tmps, asg, bd, h1, RoundIn.mono h2 ?_⟩
  rintro (v | c | _) w2 he
  ·obtain ⟨b, rfl, q1, q2, ⟨rfl, hh1, hh2, hh3, hh4⟩ | ⟨rfl, c, hh1, hh2, hh3⟩⟩ := he
   ·exact ⟨q1, q2, .inl ⟨rfl, hh1, hh2, hh3, hh4, hVa⟩⟩
   ·exact ⟨q1, q2, .inr ⟨rfl, c, hh1, hh2, hh3, hVa⟩⟩
  ·exact he
  ·exact he
 ·rintro (v | c | _) w3 he
  ·obtain ⟨V, ⟨⟨hI3, hl, hd, _⟩, _, hE⟩ | ⟨c, hD3, hl, hd, _⟩⟩ := he
   ·refine ⟨.ready, none, by simp, hl, hdone V _ (hIs hI3) (hEst _ _ (zX (.inr rfl)) hE) (by rw [xq]; have := hlt hl; omega) ?_⟩
    rw [zL (by omega)]
    exact hd
   ·refine ⟨.done, some c, by simp, hl, hjump V c _ (hD V V c _ _ hD3 (Only.yr (.inr (.inr rfl))) (fun k hk => .inl hk)) (by rw [xq]; have := hlt hl; omega) ?_⟩
    rw [zL (by omega)]
    exact hd
  ·exact he
  ·exact he
end V
/- Contracts of the package space: refs. -/
namespace V
open Go Go.Proofs Go.RowKit Crc
theorem Sli.congr {α : Type} {E : Enc α} {w w' : World} {A : Option Addr} {n : Nat} {xs : List α} (h : Sli E w A n xs) (hs : ∀ a, A = some a -> w'.heap[a.block]? = w.heap[a.block]?) : Sli E w' A n xs := by
 refine ⟨h.1, h.2.1, fun hn => ?_⟩
 obtain ⟨a, e1, e2, e3⟩ := h.2.2 hn
 refine ⟨a, e1, e2, fun j v hj => ?_⟩
 have hc := e3 j v hj
 have hab : (a.add j).block = a.block := by unfold Addr.add; split <;> rfl
 unfold World.cell? at hc ⊢
 rw [show w'.heap[(a.add j).block]? = w.heap[(a.add j).block]? by rw [hab]; exact hs a e1]
 exact hc
section
variable {b db : Nat} {S : Spa} {F Fd : Nat -> Prop} {x : SLC} {hb hr nb nr : Nat} {m : MkL}
end
end V
/- Contracts of the package space: Walk, Audit. -/
namespace V
open Go Go.Proofs Go.RowKit Crc
variable {w w' : World} {b db : Nat} {S : Spa} {F Fd : Nat -> Prop} {x : SLC} {hb hr nb nr : Nat} {m : MkL}
end V
/- Contracts of the package space: Audit. -/
namespace V
open Go Go.Proofs Go.RowKit Crc
variable {w w' : World} {b db : Nat} {S : Spa} {F Fd : Nat -> Prop} {x : SLC} {hb hr nb nr : Nat} {m : MkL}
end V
/- Spaces that are well: what Put, Get, Drop, Audit come to. -/
namespace V
open Go Go.Proofs Go.RowKit Crc
structure Good (S : Spa) (R : List Nat) : Prop where
 ok : S.Ok
 dev : S.dev.Ok
 fuse : S.dev.fuse = -1
 gen : S.sup.gen < 1000000000000
 well : zZ S.N S.sup.pages S.page S.now R
theorem Good.dims {S : Spa} {R : List Nat} (h : Good S R) : uG S := by
 have hg := h.dev.geo
 rw [<- h.ok.size, <- h.ok.blocks] at hg
 obtain ⟨g1, g2, g3, g4, g5⟩ := xY hg
 have : S.sup.blocks = (S.N : Int) := by unfold Spa.N; omega
 exact ⟨hg, g1, ⟨g2, g3⟩, this, by omega⟩
theorem Good.h01 {S : Spa} {R : List Nat} (h : Good S R) : S.now.getD 0 0 ≠ 0 /\ S.now.getD 1 0 ≠ 0 := by
 have := h.well.head
 omega
theorem Good.perm {S : Spa} {R R' : List Nat} (h : Good S R) (hp : R.Perm R') : Good S R' := ⟨h.ok, h.dev, h.fuse, h.gen, h.well.perm hp⟩
theorem qa {S : Spa} {R : List Nat} (h : Good S R) {n : Nat} (hn : zI S.sup.pages S.now n = true) : S.asked n = true /\ S.now.getD n 0 ≠ 0 /\ n < S.N := by
 obtain ⟨h1, h2, h3⟩ := zN.1 hn
 have := h.well.lt hn
 exact ⟨vF.2 ⟨h1, this, h2⟩, by omega, this⟩
theorem Good.get {S : Spa} {R : List Nat} (h : Good S R) {n : Nat} (hn : zI S.sup.pages S.now n = true) : S.get n = S.page n /\ (S.page n).2 = 0 := by
 obtain ⟨h1, h2, h3⟩ := qa h hn
 refine ⟨?_, (h.well.good n hn).1⟩
 unfold Spa.get
 rw [if_neg (by rw [h1]; simp), if_neg h2]
theorem xR {d : Dev} (h : d.Ok) {k j : Int} {s : ByteArray} (hk : 0 <= k /\ k < d.blocks) (hs : (s.size : Int) = d.size) (hf : d.fuse ≠ 0) (hj : 0 <= j /\ j < d.blocks) :
  (d.write k s).2 = 0 /\ ((d.write k s).1.read j).1 = if j = k then s else (d.read j).1 := by
 unfold Dev.write
 rw [if_neg (by rintro (e | e); exact e hk; exact e hs), if_neg hf]
 refine ⟨rfl, ?_⟩
 unfold Dev.read
 dsimp only
 rw [if_neg (show ¬ ¬ (0 <= j /\ j < d.burnt.blocks) from fun e => e hj), if_neg (show ¬ ¬ (0 <= j /\ j < d.blocks) from fun e => e hj)]
 dsimp only
 rw [List.foldl_append]
 show ((List.foldl Go.Proofs.YtplgodmmmppmeaaGreat.V.put d.dur d.pen).set k.toNat s).getD j.toNat ByteArray.empty = _
 rw [getD_set]
 have hl := uC d.pen d.dur
 have hlen := h.len
 by_cases e : j = k
 ·subst e
  rw [if_pos ⟨rfl, by rw [hl]; omega⟩, if_pos rfl]
 ·rw [if_neg (fun e' => e (by omega)), if_neg e]
theorem vo {d : Dev} (h : d.Ok) {k : Int} {s : ByteArray} (hk : 0 <= k /\ k < d.blocks) (hs : (s.size : Int) = d.size) (hf : d.fuse = -1) : (d.write k s).1.Ok /\ (d.write k s).1.fuse = -1 /\ (d.write k s).1.pen.length = d.pen.length + 1 := by
 unfold Dev.write
 rw [if_neg (by rintro (e | e); exact e hk; exact e hs), if_neg (by omega)]
 have hb := h.burnt
 refine ⟨⟨h.geo, h.len, h.each, fun p hp => ?_, hb.fuse⟩, ?_, by simp⟩
 ·rcases List.mem_append.1 hp with hp | hp
  ·exact h.pend p hp
  ·rw [List.mem_singleton.1 hp]; exact ⟨hk.1, hk.2, hs⟩
 ·show max (-1) (d.fuse - 1) = -1
  rw [hf]; decide
theorem zfg (S : Spa) : ∀ n, (∀ j, j < n -> ¬ ((decide (2 <= j) && S.yq j) = true)) -> jg S n = []
 | 0, _ => rfl
 | n + 1, h => by
  rw [qB, if_neg (h n (by omega)), zfg S n (fun j hj => h j (by omega))]
theorem vH {S : Spa} {n : Nat} : n ∈ S.z8 ↔ n < S.N /\ 2 <= n /\ S.yq n = true := by
 unfold Spa.z8
 rw [List.mem_filter, List.mem_range, Bool.and_eq_true, decide_eq_true_iff]
theorem zjh {S : Spa} {R : List Nat} (h : Good S R) (hf : 0 < S.zV) : S.zB < S.N /\ 2 <= S.zB /\ S.yq S.zB = true /\ (∀ j, j < S.zB -> S.yq j = false) /\ S.zB ∉ S.sup.pages := by
 have hnow := h.ok.now
 obtain ⟨n, hn⟩ : ∃ n, n ∈ S.z8 := by
  unfold Spa.zV at hf
  cases hq : S.z8 with
  | nil => rw [hq] at hf; simp at hf
  | cons a r => exact ⟨a, List.mem_cons_self⟩
 obtain ⟨h1, h2, h3⟩ := vH.1 hn
 have hlt : S.zB < (List.range S.now.length).length := List.findIdx_lt_length_of_exists ⟨n, List.mem_range.2 (by omega), h3⟩
 rw [List.length_range] at hlt
 have hfr : S.yq S.zB = true := by
  have := List.findIdx_getElem (p := S.yq) (xs := List.range S.now.length) (w := by rw [List.length_range]; exact hlt)
  rw [List.getElem_range] at this
  exact this
 obtain ⟨f1, f2, f3⟩ := zP.1 hfr
 have hhd := h.well.head
 refine ⟨by omega, ?_, hfr, fun j hj => ?_, fun hp => ?_⟩
 ·rcases Nat.lt_or_ge S.zB 2 with hh | hh
  ·have : S.zB = 0 \/ S.zB = 1 := by omega
   rcases this with e | e <;> rw [e] at f1 <;> omega
  ·exact hh
 ·have := List.not_of_lt_findIdx (p := S.yq) (xs := List.range S.now.length) (i := j) hj
  rw [List.getElem_range] at this
  simpa using this
 ·have := (h.well.pgs _ hp).2.2
  omega
structure vz (S S' : Spa) (p : Page) (n : Nat) : Prop where
 two : 2 <= n
 lt : n < S.N
 pgs : n ∉ S.sup.pages
 free : S.yq n = true
 now : S'.now = S.now.set n 1
 sup : S'.sup = S.sup
 held : S'.held = S.held
 mark : S'.mark = S.mark
 slot : S'.slot = S.slot
 page : S'.page n = (p, 0)
 other : ∀ k, k ≠ n -> k < S.N -> S'.page k = S.page k
 pen : S'.dev.pen.length = S.dev.pen.length + 1
 z8 : S.z8 = n :: S'.z8
 read : ∀ k : Int, 0 <= k -> k < S.N -> k ≠ n -> (S'.dev.read k).1 = (S.dev.read k).1
 dim : S'.dev.size = S.dev.size /\ S'.dev.blocks = S.dev.blocks
theorem zji {S S' : Spa} {n : Nat} (hn : n < S.N) (h2 : 2 <= n) (hf : S.yq n = true) (hno : ∀ j, j < n -> S.yq j = false) (hN : S'.N = S.N) (hf' : ∀ j, j < S.N -> S'.yq j = if j = n then false else S.yq j) : S.z8 = n :: S'.z8 := by
 have key : ∀ k, k <= S.N -> jg S k = if n < k then n :: jg S' k else jg S' k := by
  intro k
  induction k with
  | zero => intro _; rw [if_neg (by omega)]; rfl
  | succ k ih =>
   intro hk
   have ih := ih (by omega)
   rw [qB, qB, hf' k (by omega)]
   by_cases hkn : k = n
   ·subst hkn
    have hA : (decide (2 <= k) && S.yq k) = true := by rw [hf, decide_eq_true h2]; rfl
    have e1 : jg S k = [] := zfg S k (fun j hj hh => by rw [hno j hj] at hh; simp at hh)
    rw [if_neg (by omega)] at ih
    rw [if_pos hA, if_pos (Nat.lt_succ_self k), if_pos rfl, Bool.and_false, if_neg (by simp), <- ih, e1]
    rfl
   ·rw [if_neg hkn]
    by_cases hlt : n < k
    ·rw [if_pos hlt] at ih
     rw [if_pos (by omega : n < k + 1), ih]
     split <;> simp
    ·rw [if_neg hlt] at ih
     rw [if_neg (by omega : ¬ n < k + 1), ih]
 have h1 := key S.N (Nat.le_refl _)
 rw [if_pos hn] at h1
 have e2 : jg S' S.N = S'.z8 := by unfold jg Spa.z8; rw [hN]
 rw [e2] at h1
 exact h1
theorem zdv {S : Spa} {R : List Nat} {p : Page} (h : Good S (p.2.1 ++ R)) (ht : 3 <= p.1.toNat) (hk : (p.2.1.length : Int) <= S.room 0 / 4) (hd : (p.2.2.size : Int) <= S.room p.2.1.length) (hfree : S.sup.pages.length < S.zV) :
  (S.put p).2.2 = 0 /\ vz S (S.put p).1 p (S.put p).2.1 /\ Good (S.put p).1 ((S.put p).2.1 :: R) := by
 have hdim := h.dims
 have hN := hdim.n
 have hsz := hdim.size
 have hroom := hdim.room
 have hr0 : S.room 0 = S.sup.size - 18 := by unfold Spa.room; rw [hroom, if_neg (by omega)]; omega
 have hrk : S.room p.2.1.length = S.sup.size - 18 - 4 * p.2.1.length := by unfold Spa.room; rw [hroom, if_neg (by omega)]; omega
 obtain ⟨t1, t2, t3, t4, t5⟩ := zjh h (by omega)
 obtain ⟨f1, f2, f3⟩ := zP.1 t3
 have hnow := h.ok.now
 have eN : S.takeN = S.zB := by unfold Spa.takeN; rw [if_pos (by omega)]
 have eE : S.yM = 0 := by unfold Spa.yM; rw [if_pos (by omega)]
 have eL : S.yN = S.now.set S.zB 1 := by unfold Spa.yN; rw [if_pos (by omega)]
 have hku : ∀ k ∈ p.2.1, zI S.sup.pages S.now k = true := fun k hk => h.well.root k (List.mem_append_left _ hk)
 have hE0 : S.jC p = 0 := by
  unfold Spa.jC
  rw [if_neg, if_neg, if_neg, if_neg]
  ·omega
  ·rintro (e | e) <;> omega
  ·rintro ⟨k, hk, e⟩
   exact (qa h (hku k hk)).2.1 e
  ·rintro (e | e | ⟨k, hk, e⟩)
   ·omega
   ·omega
   ·rw [(qa h (hku k hk)).1] at e; cases e
 have hpl : (pgB p).length = 2 + (4 * p.2.1.length + p.2.2.size) := by simp [pgB, zv, xk, yg]
 have hdz := h.ok.size
 have hdb := h.ok.blocks
 have hbl := hdim.blocks
 obtain ⟨z, hz⟩ : ∃ z : Nat, S.sup.size = (z : Int) := ⟨S.sup.size.toNat, by omega⟩
 have hfit : (pgB p).length + 16 <= z := by omega
 have hBp : (B (mkB (pgB p))).length = (pgB p).length := by rw [xj]
 have hputR : xl S.dev.size (S.frame p) = (yt z (S.frame p), 0) := by
  unfold xl
  rw [<- hdz, if_neg (by rw [hroom]; omega)]
  rw [if_neg (by show ¬ (((B (mkB (pgB p))).length : Int) > _); rw [hBp, hroom]; omega), hz]
  rfl
 have hbl2 : (yt z (S.frame p)).length = z := j0 (by show (B (mkB (pgB p))).length + 16 <= z; rw [hBp]; exact hfit)
 have hws : (((mkB (yt z (S.frame p))).size : Nat) : Int) = S.dev.size := by rw [xm, hbl2, <- hz, hdz]
 have hwf : yj S.dev S.zB (S.frame p) = S.dev.write S.zB (mkB (yt z (S.frame p))) := by
  unfold yj
  rw [hputR, if_neg (by simp)]
 have hk2 : 0 <= (S.zB : Int) /\ (S.zB : Int) < S.dev.blocks := by omega
 have hfz := h.fuse
 obtain ⟨q1, q2, q3⟩ := vo h.dev hk2 hws hfz
 have hwe : (S.dev.write S.zB (mkB (yt z (S.frame p)))).2 = 0 := (xR h.dev hk2 hws (by omega) hk2).1
 have eput : S.put p = ({ S with now := S.now.set S.zB 1, dev := (S.dev.write S.zB (mkB (yt z (S.frame p)))).1 }, S.zB, 0) := by
  unfold Spa.put
  rw [if_neg (by rw [hE0]; simp), if_neg (by rw [eE]; simp), eN, eL, hwf, if_neg (by rw [hwe]; simp)]
 rw [eput]
 dsimp only
 have hpg : ∀ k, k < S.N -> Spa.page { S with now := S.now.set S.zB 1, dev := (S.dev.write S.zB (mkB (yt z (S.frame p)))).1 } k = if k = S.zB then (p, 0) else S.page k := by
  intro k hkN
  unfold Spa.page
  dsimp only
  have hrw := (xR h.dev hk2 hws (by omega) (j := (k : Int)) (by omega)).2
  show xQ S.N (B ((S.dev.write S.zB (mkB (yt z (S.frame p)))).1.read k).1) = _
  rw [hrw]
  by_cases e : k = S.zB
  ·subst e
   rw [if_pos rfl, if_pos rfl, xj]
   have hg := h.gen
   refine zi2 (by rw [<- hz]; exact hroom) (by omega) (by omega) hfit (by omega) ht (fun n hn => ?_) hN.2
   obtain ⟨a1, a2, a3⟩ := zN.1 (hku n hn)
   exact ⟨a1, h.well.lt (hku n hn)⟩
  ·rw [if_neg (by omega), if_neg e]
 have hdim2 := jE S.dev S.zB (mkB (yt z (S.frame p)))
 have hwell : zZ S.N S.sup.pages (Spa.page { S with now := S.now.set S.zB 1, dev := (S.dev.write S.zB (mkB (yt z (S.frame p)))).1 }) (S.now.set S.zB 1) (S.zB :: R) := by
  refine zZ.put (ks := p.2.1) h.well t2 t1 t5 f1 ?_ ?_ (fun k hk hkN => ?_)
  ·rw [hpg _ t1, if_pos rfl]
  ·unfold yp; rw [hpg _ t1, if_pos rfl]
  ·rw [hpg k hkN, if_neg hk]
 refine ⟨rfl, ⟨t2, t1, t5, t3, rfl, rfl, rfl, rfl, rfl, by rw [hpg _ t1, if_pos rfl], fun k hk hkN => by rw [hpg k hkN, if_neg hk], q3, ?_, fun k h0 hkN hne => by
  show ((S.dev.write S.zB (mkB (yt z (S.frame p)))).1.read k).1 = _
  rw [(xR h.dev hk2 hws (by omega) (j := k) (by omega)).2, if_neg hne], ⟨hdim2.1, hdim2.2.1⟩⟩, ⟨⟨?_, ?_, h.ok.fits, h.ok.held, ?_, h.ok.mark⟩, q1, q2, h.gen, hwell⟩⟩
 ·refine zji t1 t2 t3 t4 rfl (fun j hj => ?_)
  rw [Bool.eq_iff_iff, zP]
  dsimp only
  rw [ym]
  by_cases e : j = S.zB
  ·subst e
   rw [if_pos ⟨rfl, by omega⟩, if_pos rfl]
   simp
  ·rw [if_neg (fun e' => e e'.1.symm), if_neg e, zP]
 ·exact hdz.trans hdim2.1.symm
 ·exact hdb.trans hdim2.2.1.symm
 ·show (S.now.set S.zB 1).length = _
  rw [List.length_set]
  exact hnow
end V
/- Spaces that are well: Share, Drop, Audit. -/
namespace V
open Go Go.Proofs Go.RowKit Crc
theorem Good.j7 {S : Spa} {R R' : List Nat} {c : List Nat} (h : Good S R) (hl : c.length = S.now.length) (hw : zZ S.N S.sup.pages S.page c R') : Good { S with now := c } R' :=
 ⟨⟨h.ok.size, h.ok.blocks, h.ok.fits, h.ok.held, hl.trans h.ok.now, h.ok.mark⟩, h.dev, h.fuse, h.gen, hw⟩
theorem zjj {S : Spa} {R : List Nat} {n : Nat} (h : Good S R) (hn : zI S.sup.pages S.now n = true) (h6 : S.now.getD n 0 < 65535) : (S.share n).2 = 0 /\ Good (S.share n).1 (n :: R) /\ (S.share n).1 = { S with now := S.now.set n (S.now.getD n 0 + 1) } := by
 obtain ⟨h1, h2, h3⟩ := qa h hn
 have ha := zbb h.well hn
 have e1 : uD S.now n = 0 := by unfold uD; rw [if_pos ha, if_neg (by omega)]
 have e2 : uE S.now n = S.now.set n (S.now.getD n 0 + 1) := by unfold uE; rw [if_pos e1]
 unfold Spa.share
 rw [if_neg (by rw [h1]; simp), e1, e2]
 exact ⟨rfl, h.j7 (by simp) (h.well.share hn), rfl⟩
theorem zkl {S : Spa} {R : List Nat} {n : Nat} (h : Good S (n :: R)) : ∃ c', Drp S.asked S.page S.now [n] c' 0 /\ Good { S with now := c' } R /\ c'.length = S.now.length /\ ∀ k, c'.getD k 0 <= S.now.getD k 0 := by
 obtain ⟨c', h1, h2, h3, h4⟩ := zZ.drop (N := S.N) (ps := S.sup.pages) (pg := S.page) (ask := S.asked) (fun n a1 a2 a3 => vF.2 ⟨a1, a2, a3⟩) S.now.sum [n] (Nat.le_refl _) (R := R) h.well
 exact ⟨c', h1, h.j7 h3 h2, h3, h4⟩
theorem zfh {f g : Nat -> Nat} {N : Nat} (h : ∀ m, m < N -> f m = g m) : ((List.range N).map f).sum = ((List.range N).map g).sum := by
 congr 1
 exact List.map_congr_left (fun m hm => h m (List.mem_range.1 hm))
theorem zcc : ∀ N : Nat, ((List.range N).map fun _ => 0).sum = 0
 | 0 => rfl
 | N + 1 => by
  rw [List.range_succ, List.map_append, List.sum_append, zcc N]
  rfl
end V
/- Spaces that are well: commit, Format. -/
namespace V
open Go Go.Proofs Go.RowKit Crc
structure kT (d : Dev) : Prop where
 ok : d.Ok
 fuse : d.fuse = -1
theorem Dev.Ok.facts {d : Dev} (h : d.Ok) : ∃ z N : Nat, d.size = (z : Int) /\ d.blocks = (N : Int) /\ zC d.size = (z : Int) - 16 /\ 128 <= z /\ z <= 4096 /\ 8 <= N /\ N <= 4096 /\ zC d.size = ((2 * zH d.size : Nat) : Int) := by
 obtain ⟨g1, g2, g3, g4, g5⟩ := xY h.geo
 obtain ⟨h8, _⟩ := zdp h.geo
 have h4 := zdo h8
 exact ⟨d.size.toNat, d.blocks.toNat, by omega, by omega, by omega, by omega, by omega, by omega, by omega, h4⟩
theorem zcY {d : Dev} (h : kT d) {k : Nat} {f : Fra} (hk : (k : Int) < d.blocks) (hf : ((B f.2.2).length : Int) <= zC d.size) :
  (yj d k f).2 = 0 /\ kT (yj d k f).1 /\ (∀ j : Int, 0 <= j /\ j < d.blocks -> ((yj d k f).1.read j).1 = if j = k then mkB (yt d.size.toNat f) else (d.read j).1) := by
 obtain ⟨z, N, e1, e2, e3, e4, e5, e6, e7, e8⟩ := h.ok.facts
 have hputR : xl d.size f = (yt z f, 0) := by
  unfold xl
  rw [if_neg (by omega), if_neg (by omega), e1]
  rfl
 have hl : (yt z f).length = z := j0 (by omega)
 have hws : (((mkB (yt z f)).size : Nat) : Int) = d.size := by rw [xm, hl, e1]
 have hwf : yj d k f = d.write k (mkB (yt z f)) := by
  unfold yj
  rw [hputR, if_neg (by simp)]
 have hk2 : 0 <= (k : Int) /\ (k : Int) < d.blocks := by omega
 obtain ⟨q1, q2, q3⟩ := vo h.ok hk2 hws h.fuse
 rw [hwf]
 have hez : d.size.toNat = z := by omega
 rw [hez]
 exact ⟨(xR h.ok hk2 hws (by rw [h.fuse]; decide) hk2).1, ⟨q1, q2⟩, fun j hj => (xR h.ok hk2 hws (by rw [h.fuse]; decide) hj).2⟩
theorem vV {d : Dev} (h : kT d) : d.flush.2 = 0 /\ kT d.flush.1 /\ d.flush.1.pen = [] /\ ∀ j : Int, (d.flush.1.read j).1 = (d.read j).1 := by
 have hok := h.ok
 have hb := hok.burnt
 have hf : max (-1) (d.fuse - 1) = -1 := by rw [h.fuse]; decide
 unfold Dev.flush
 rw [if_neg (by rw [h.fuse]; decide)]
 refine ⟨rfl, ⟨⟨hok.geo, ?_, zbX _ _ hok.each (fun p hp => (hok.pend p hp).2.2), (fun p hp => by cases hp), hb.fuse⟩, hf⟩, rfl, fun j => rfl⟩
 show (((d.pen.foldl Go.Proofs.YtplgodmmmppmeaaGreat.V.put d.dur).length : Nat) : Int) = d.blocks
 rw [uC]
 exact hok.len
theorem zbc : ∀ (l : List (Nat × Fra)) (d : Dev), kT d -> (∀ p ∈ l, (p.1 : Int) < d.blocks /\ ((B p.2.2.2).length : Int) <= zC d.size) ->
  (wrL d l).2 = 0 /\ kT (wrL d l).1 /\ (∀ j : Int, 0 <= j /\ j < d.blocks -> (∀ p ∈ l, (p.1 : Int) ≠ j) -> ((wrL d l).1.read j).1 = (d.read j).1)
 | [], d, h, _ => ⟨rfl, h, fun _ _ _ => rfl⟩
 | kf :: r, d, h, hl => by
  obtain ⟨h1, h2⟩ := hl kf List.mem_cons_self
  obtain ⟨g1, g2, g3⟩ := zcY h h1 h2
  obtain ⟨d1, d2, d3⟩ := vU d kf.1 kf.2
  obtain ⟨k1, k2, k3⟩ := zbc r (yj d kf.1 kf.2).1 g2 (fun p hp => by rw [d1, d2]; exact hl p (List.mem_cons_of_mem _ hp))
  unfold wrL
  rw [if_neg (fun hh => hh g1)]
  refine ⟨k1, k2, fun j hj hno => ?_⟩
  rw [k3 j (by rw [d2]; exact hj) (fun p hp => hno p (List.mem_cons_of_mem _ hp)), g3 j hj, if_neg (fun e => hno kf List.mem_cons_self e.symm)]
theorem zfi (l : List Nat) (per i : Nat) : (zcw l per i).length <= 2 * per := by
 unfold zcw
 have : ∀ l : List Nat, (l.flatMap (le 2)).length = 2 * l.length := by
  intro l
  induction l with
  | nil => rfl
  | cons a t ih => rw [List.flatMap_cons, List.length_append, ih, zv, List.length_cons]; omega
 rw [this, List.length_take]
 omega
theorem zhH {d : Dev} (h : kT d) {c : List Nat} {s : Sup} {slot : Int} (hchk : chk s = 0) (hsz : s.size = d.size) (hps : ∀ p ∈ s.pages, 2 <= p /\ (p : Int) < d.blocks) (hslot : slot = 0 \/ slot = 1) :
  (yI d c s slot).2 = 0 /\ kT (yI d c s slot).1 /\ (yI d c s slot).1.pen = [] /\ (∀ j : Int, 2 <= j /\ j < d.blocks -> (∀ p ∈ s.pages, (p : Int) ≠ j) -> ((yI d c s slot).1.read j).1 = (d.read j).1) := by
 obtain ⟨z, N, e1, e2, e3, e4, e5, e6, e7, e8⟩ := h.ok.facts
 have hL : ∀ p ∈ xn s.gen s.pages (zQ c (zH d.size)), p.1 ∈ s.pages /\ ((B p.2.2.2).length : Int) <= zC d.size := by
  intro p hp
  unfold xn at hp
  obtain ⟨q, hq, rfl⟩ := List.mem_map.1 hp
  have h1 := (List.of_mem_zip hq).1
  have h2 := (List.of_mem_zip hq).2
  refine ⟨h1, ?_⟩
  unfold zQ at h2
  obtain ⟨i, _, hi⟩ := List.mem_map.1 h2
  show ((B q.2).length : Int) <= _
  rw [<- hi, jx]
  have := zfi c (zH d.size) i
  omega
 obtain ⟨w1, w2, w3⟩ := zbc (xn s.gen s.pages (zQ c (zH d.size))) d h (fun p hp => ⟨(hps _ (hL p hp).1).2, (hL p hp).2⟩)
 obtain ⟨dm1, dm2, dm3⟩ := zcz (xn s.gen s.pages (zQ c (zH d.size))) d
 obtain ⟨f1, f2, f3, f4⟩ := vV w2
 have fd := vG (wrL d (xn s.gen s.pages (zQ c (zH d.size)))).1
 unfold yI
 generalize (wrL d (xn s.gen s.pages (zQ c (zH d.size)))) = r at *
 have hp0 : (xu s).2 = 0 := by rw [kE hchk]
 have hpl := (zcT hchk).1
 have hs2 : ((((mkB (xu s).1).size : Nat)) : Int) = r.1.flush.1.size := by rw [xm, hpl, fd.1, dm1, hsz]
 have hsl : 0 <= slot /\ slot < r.1.flush.1.blocks := by rw [fd.2.1, dm2]; omega
 obtain ⟨q1, q2, q3⟩ := vo f2.ok hsl hs2 f2.fuse
 have hrw := fun (j : Int) (hj : 0 <= j /\ j < r.1.flush.1.blocks) => xR f2.ok hsl hs2 (by rw [f2.fuse]; decide) (j := j) hj
 have hw0 := (hrw slot hsl).1
 have hwd := jE r.1.flush.1 slot (mkB (xu s).1)
 obtain ⟨y1, y2, y3, y4⟩ := vV (d := (r.1.flush.1.write slot (mkB (xu s).1)).1) ⟨q1, q2⟩
 rw [if_neg (fun hh => hh w1), if_neg (fun hh => hh f1), if_neg (fun hh => hh hp0), if_neg (fun hh => hh hw0)]
 refine ⟨y1, y2, y3, fun j hj hno => ?_⟩
 rw [y4 j, (hrw j (by rw [fd.2.1, dm2]; omega)).2, if_neg (by omega), f4 j, w3 j (by omega) (fun p hp => hno p.1 (hL p hp).1)]
theorem zcd {size : Int} {N : Nat} (h : zT size N = true) : kD size N = ((zF size N : Nat) : Int) := by
 obtain ⟨h8, n, hn, h1, h2⟩ := zdp h
 obtain ⟨hp1, hp2, _⟩ := jQ h8
 unfold kD zF yl
 rw [if_pos h, zdo h8]
 rw [show (2 : Int) * (N : Int) + ((2 * zH size : Nat) : Int) - 1 = ((2 * N + 2 * zH size - 1 : Nat) : Int) by omega, <- Int.natCast_ediv]
 congr 1
 rw [<- Nat.div_div_eq_div_mul]
 congr 1
 omega
theorem zop {size : Int} {N : Nat} (h : zT size N = true) : chk (yW size N) = if 14 + 4 * ((zF size N : Nat) : Int) > zC size then 3 else 0 := by
 have hn := zaF h
 have hl : (yW size N).pages.length = zF size N := j8 _
 have hget : ∀ j, j < zF size N -> (yW size N).pages.getD j 0 = j + 2 := fun j hj => by
  show (xw (zF size N)).getD j 0 = _
  unfold xw
  simp [List.getD_eq_getElem?_getD, hj]
 rw [zgs]
 ·rw [hl]; rfl
 ·exact ⟨h, (show (1 : Nat) ≠ 0 by decide), .inl rfl, by rw [hl]; exact (zcd h).symm⟩
 ·intro j hj
  rw [hl] at hj
  refine ⟨?_, ?_, ?_⟩
  ·rw [hget j hj]
   unfold vE
   rw [decide_eq_true]
   exact ⟨by omega, by show ((j + 2 : Nat) : Int) < (N : Int); omega⟩
  ·rw [hget j hj]; show j + 2 ≠ 0; omega
  ·rw [hget j hj]
   intro hm
   have hm : j + 2 ∈ (xw (zF size N)).take j := hm
   unfold xw at hm
   rw [<- List.map_take, List.take_range] at hm
   obtain ⟨i, hi, e⟩ := List.mem_map.1 hm
   have := List.mem_range.1 hi
   omega
theorem zhI {d : Dev} (h : kT d) (hchk : chk (yW d.size d.blocks.toNat) = 0) : (yv d).2 = 0 /\ Good (qi d) [] /\ (qi d).dev.pen = [] := by
 obtain ⟨z, N, e1, e2, e3, e4, e5, e6, e7, e8⟩ := h.ok.facts
 have hN : d.blocks.toNat = N := by omega
 have hg : zT d.size (N : Int) = true := by rw [<- e2]; exact h.ok.geo
 obtain ⟨n1, n2, n3⟩ := zaF hg
 rw [hN] at hchk
 have hz : (((yw d.size.toNat).size : Nat) : Int) = d.size := by rw [za3]; omega
 have h1 : 0 <= (1 : Int) /\ (1 : Int) < d.blocks := by omega
 obtain ⟨q1, q2, q3⟩ := vo h.ok h1 hz h.fuse
 have hw0 := (xR h.ok h1 hz (by rw [h.fuse]; decide) h1).1
 have hwd := jE d 1 (yw d.size.toNat)
 have hpages : ∀ p ∈ xw (zF d.size N), 2 <= p /\ p < N := fun p hp => by
  unfold xw at hp
  obtain ⟨i, hi, rfl⟩ := List.mem_map.1 hp
  have := List.mem_range.1 hi
  omega
 obtain ⟨c1, c2, c3, c4⟩ := zhH (d := (d.write 1 (yw d.size.toNat)).1) ⟨q1, q2⟩ (c := yf N (zF d.size N)) (s := yW d.size N) (slot := 0) hchk hwd.1.symm (fun p hp => by have := hpages p hp; rw [hwd.2.1]; omega) (.inl rfl)
 have eD : yv d = yI (d.write 1 (yw d.size.toNat)).1 (yf N (zF d.size N)) (yW d.size N) 0 := by
  unfold yv
  rw [hN, if_neg (fun hh => hh hchk), if_neg (fun hh => hh hw0)]
 have dm := zaj (d.write 1 (yw d.size.toNat)).1 (yf N (zF d.size N)) (yW d.size N) 0
 have eS : qi d = ⟨(yv d).1, yW d.size N, 0, yf N (zF d.size N), yf N (zF d.size N), none⟩ := by unfold qi; rw [hN]
 rw [eS, eD]
 refine ⟨c1, ⟨⟨(dm.1.trans hwd.1).symm, ?_, zcb hg, ?_, ?_, fun l hl => by cases hl⟩, c2.ok, c2.fuse, by show 1 < _; decide, ?_⟩, c3⟩
 ·show (N : Int) = _
  rw [dm.2, hwd.2.1, e2]
 ·show (yf N (zF d.size N)).length = ((N : Int)).toNat
  rw [qM n1]; omega
 ·show (yf N (zF d.size N)).length = ((N : Int)).toNat
  rw [qM n1]; omega
 ·show zZ ((N : Int)).toNat (xw (zF d.size N)) _ (yf N (zF d.size N)) []
  have hget := fun k => kz (N := N) (np := zF d.size N) (k := k) n1
  have hnone : ∀ k, zI (xw (zF d.size N)) (yf N (zF d.size N)) k = false := fun k => by
   cases hq : zI (xw (zF d.size N)) (yf N (zF d.size N)) k with
   | false => rfl
   | true =>
    obtain ⟨a1, a2, a3⟩ := zN.1 hq
    rw [hget k] at a3
    split at a3
    ·exfalso
     apply a2
     unfold xw
     exact List.mem_map.2 ⟨k - 2, List.mem_range.2 (by omega), by omega⟩
    ·omega
  refine ⟨by rw [qM n1]; omega, by omega, ⟨by rw [hget, if_pos (by omega)], by rw [hget, if_pos (by omega)]⟩, fun p hp => ?_, by simp, (fun n hn => by rw [hnone] at hn; cases hn), ⟨fun _ => 0, (fun n hn => by rw [hnone] at hn; cases hn)⟩, fun n h2 hp => ?_⟩
  ·have := hpages p hp
   refine ⟨this.1, by omega, ?_⟩
   unfold xw at hp
   obtain ⟨i, hi, rfl⟩ := List.mem_map.1 hp
   have := List.mem_range.1 hi
   rw [hget, if_pos (by omega)]
  ·have hz0 : kS ((N : Int)).toNat (xw (zF d.size N)) (Spa.page ⟨(yI (d.write 1 (yw d.size.toNat)).1 (yf N (zF d.size N)) (yW d.size N) 0).1, yW d.size N, 0, yf N (zF d.size N), yf N (zF d.size N), none⟩) (yf N (zF d.size N)) n = 0 := by
    unfold kS
    rw [zfh (g := fun _ => 0) (fun m _ => by unfold xD; rw [hnone]; rfl)]
    exact zcc _
   have e0 : (yf N (zF d.size N)).getD n 0 = 0 := by
    rw [hget, if_neg]
    intro hlt
    apply hp
    show n ∈ xw (zF d.size N)
    unfold xw
    exact List.mem_map.2 ⟨n - 2, List.mem_range.2 (by omega), by omega⟩
   rw [e0, List.count_nil, Nat.zero_add]
   exact hz0.symm
end V
/- Spaces: several blocks taken, and what Commit comes to: plain. -/
namespace V
open Go Go.Proofs Go.RowKit Crc
theorem zmw (S : Spa) : S.z8.Nodup := List.Nodup.sublist List.filter_sublist List.nodup_range
namespace Spa
end Spa
namespace Spa
end Spa
structure zpp (S : Spa) : Prop where
 at_ : ∀ p ∈ S.sup.pages, 2 <= p /\ p < S.N /\ S.now.getD p 0 = 1
 nodup : S.sup.pages.Nodup
 len : S.sup.pages.length = yl S.N (zH S.sup.size)
end V
/- Contracts of the package space: Commit. -/
namespace V
open Go Go.Proofs Go.RowKit Crc
def zjk : List Value -> Nat -> List Value -> List Value
 | cs, _, [] => cs
 | cs, k, v :: r => zjk (cs.set k v) (k + 1) r
theorem zcZ {w : World} {b : Nat} {cs : List Value} {t : TypeId} (h : Blk w b cs t) {o : Nat} : ∀ (vs : List Value) (i : Nat), o + i + vs.length <= cs.length -> (∀ v ∈ vs, v.oneCell' = true) -> Storable w ⟨b, o, none⟩ i vs
 | [], _, _, _ => trivial
 | v :: r, i, hl, ho => by
  simp only [List.length_cons] at hl
  refine ⟨ho v List.mem_cons_self, ?_, ?_, zcZ h r (i + 1) (by omega) (fun u hu => ho u (List.mem_cons_of_mem _ hu))⟩
  ·rw [zz, h.cell]
   exact ⟨_, List.getElem?_eq_getElem (by omega)⟩
  ·rw [zz]
   exact h.frozen _
theorem zc0 {b o : Nat} {t : TypeId} : ∀ (vs : List Value) (i : Nat) (w : World) (cs : List Value), Blk w b cs t -> Blk (setCells w ⟨b, o, none⟩ i vs) b (zjk cs (o + i) vs) t /\ Only (fun k => k = b) w (setCells w ⟨b, o, none⟩ i vs)
 | [], i, w, cs, h => ⟨h, Only.refl _ _⟩
 | v :: r, i, w, cs, h => by
  simp only [setCells, zz]
  have h2 := h.set (o + i) v
  have o2 : Only (fun k => k = b) w (w.setCell ⟨b, o + i, none⟩ v) := Only.z7 (yF w b (o + i) v) (fun j hj => .inl (by injection hj with hj; exact hj.symm))
  obtain ⟨g1, g2⟩ := zc0 (o := o) r (i + 1) _ _ h2
  exact ⟨g1, Only.trans o2 g2 (fun j hj => .inl hj)⟩
theorem zoq {w : World} {b n : Nat} (o : Nat) {a : Addr} {cs vs : List Value} {t : TypeId} {us : Array Value} {K : WP} (h : Blk w b cs t) (ha : a = ⟨b, o, none⟩) (hl : o + vs.length <= cs.length) (hv : ∀ v ∈ vs, v.oneCell' = true) (hu : us.size = n)
  (hK : ∀ w', Blk w' b (zjk cs o vs) t -> Only (fun k => k = b) w w' -> K w') : (zd (us.size = n) <| zt a vs K) w := by
 subst ha
 obtain ⟨g1, g2⟩ := zc0 (o := o) vs 0 w cs h
 exact ⟨hu, zcZ h vs 0 (by omega) hv, hK _ g1 g2⟩
theorem stE {w : World} {b o : Nat} {a : Addr} {cs : List Value} {t : TypeId} {v : Value} {K : WP} (h : Blk w b cs t) (ha : a = ⟨b, o, none⟩) (ho : o < cs.length) (hK : ∀ w', Blk w' b (cs.set o v) t -> Only (fun k => k = b) w w' -> K w') : stW a v K w := by
 subst ha
 exact zO h ho (hK _ (h.set o v) (Only.z7 (yF w b o v) (fun j hj => .inl (by injection hj with hj; exact hj.symm))))
variable {w w' : World} {b db : Nat} {S : Spa} {F Fd : Nat -> Prop} {x : SLC} {hb hr nb nr : Nat} {m : MkL}
end V
/- Contracts of the package space: Open, Root. -/
namespace V
open Go Go.Proofs Go.RowKit Crc
end V
/- Spaces that are well, with what was committed and marked: plain. -/
namespace V
open Go Go.Proofs Go.RowKit Crc
theorem zed {S S' : Spa} (hN : S'.N = S.N) (h : ∀ n, S.yq n = true -> S'.yq n = true) : S.zV <= S'.zV := by
 unfold Spa.zV Spa.z8
 rw [<- List.countP_eq_length_filter, <- List.countP_eq_length_filter, hN]
 refine List.countP_mono_left (fun n _ hn => ?_)
 rw [Bool.and_eq_true] at hn ⊢
 exact ⟨hn.1, h n hn.2⟩
theorem uS : ∀ {a b : List Nat}, a.Nodup -> (∀ x ∈ a, x ∈ b) -> a.length <= b.length
 | [], b, _, _ => Nat.zero_le _
 | x :: r, b, hn, h => by
  obtain ⟨hx, hr⟩ := List.nodup_cons.1 hn
  have hb := h x List.mem_cons_self
  have := uS (a := r) (b := b.erase x) hr (fun y hy => by
   have hyx : y ≠ x := fun e => hx (e ▸ hy)
   exact (List.mem_erase_of_ne hyx).2 (h y (List.mem_cons_of_mem _ hy)))
  rw [List.length_erase_of_mem hb] at this
  have := List.length_pos_of_mem hb
  rw [List.length_cons]
  omega
theorem zfj : ∀ (l : List (Nat × Fra)) (d : Dev), kT d -> (∀ p ∈ l, (p.1 : Int) < d.blocks /\ ((B p.2.2.2).length : Int) <= zC d.size) -> (l.map (·.1)).Nodup ->
  ∀ p ∈ l, ((wrL d l).1.read (p.1 : Int)).1 = mkB (yt d.size.toNat p.2)
 | [], d, _, _, _, p, hp => by cases hp
 | kf :: r, d, h, hl, hnd, p, hp => by
  obtain ⟨h1, h2⟩ := hl kf List.mem_cons_self
  obtain ⟨g1, g2, g3⟩ := zcY h h1 h2
  obtain ⟨d1, d2, d3⟩ := vU d kf.1 kf.2
  have hr := fun p hp => hl p (List.mem_cons_of_mem kf hp)
  have hr' : ∀ p ∈ r, (p.1 : Int) < (yj d kf.1 kf.2).1.blocks /\ ((B p.2.2.2).length : Int) <= zC (yj d kf.1 kf.2).1.size := fun p hp => by rw [d1, d2]; exact hr p hp
  obtain ⟨k1, k2, k3⟩ := zbc r _ g2 hr'
  rw [List.map_cons, List.nodup_cons] at hnd
  unfold wrL
  rw [if_neg (fun hh => hh g1)]
  rcases List.mem_cons.1 hp with rfl | hp
  ·rw [k3 (p.1 : Int) (by rw [d2]; exact ⟨by omega, h1⟩) (fun q hq e => hnd.1 (List.mem_map.2 ⟨q, hq, by omega⟩)), g3 _ ⟨by omega, h1⟩, if_pos rfl]
  ·have := zfj r _ g2 hr' hnd.2 p hp
   rw [this, d1]
theorem zmx {gen : Nat} {ps : List Nat} {l : List ByteArray} (h : ps.length = l.length) : (xn gen ps l).map (·.1) = ps := by
 unfold xn
 rw [List.map_map]
 have : (fun p : Nat × ByteArray => p.1) = Prod.fst := rfl
 show (ps.zip l).map Prod.fst = ps
 rw [List.map_fst_zip (by omega)]
theorem zgI {d : Dev} (h : kT d) {c : List Nat} {s : Sup} {slot : Int} (hchk : chk s = 0) (hsz : s.size = d.size) (hps : ∀ p ∈ s.pages, 2 <= p /\ (p : Int) < d.blocks) (hnd : s.pages.Nodup) (hslot : slot = 0 \/ slot = 1)
  (hlen : s.pages.length = yl c.length (zH d.size)) :
  ((yI d c s slot).1.read slot).1 = mkB (xu s).1 /\ (∀ j : Int, 0 <= j -> j < d.blocks -> j ≠ slot -> (∀ p ∈ s.pages, (p : Int) ≠ j) -> ((yI d c s slot).1.read j).1 = (d.read j).1) /\
   ∀ i, i < s.pages.length -> ((yI d c s slot).1.read ((s.pages.getD i 0 : Nat) : Int)).1 = mkB (yt d.size.toNat ((2 : UInt8), s.gen, (zQ c (zH d.size)).getD i ByteArray.empty)) := by
 obtain ⟨z, N, e1, e2, e3, e4, e5, e6, e7, e8⟩ := h.ok.facts
 have hPl := zbw c (zH d.size)
 have hL : ∀ p ∈ xn s.gen s.pages (zQ c (zH d.size)), p.1 ∈ s.pages /\ ((B p.2.2.2).length : Int) <= zC d.size := by
  intro p hp
  unfold xn at hp
  obtain ⟨q, hq, rfl⟩ := List.mem_map.1 hp
  have h1 := (List.of_mem_zip hq).1
  have h2 := (List.of_mem_zip hq).2
  refine ⟨h1, ?_⟩
  unfold zQ at h2
  obtain ⟨i, _, hi⟩ := List.mem_map.1 h2
  show ((B q.2).length : Int) <= _
  rw [<- hi, jx]
  have := zfi c (zH d.size) i
  omega
 have hL' : ∀ p ∈ xn s.gen s.pages (zQ c (zH d.size)), (p.1 : Int) < d.blocks /\ ((B p.2.2.2).length : Int) <= zC d.size := fun p hp => ⟨(hps _ (hL p hp).1).2, (hL p hp).2⟩
 obtain ⟨w1, w2, w3⟩ := zbc _ d h hL'
 have w4 := zfj _ d h hL' (by rw [zmx (by omega)]; exact hnd)
 obtain ⟨dm1, dm2, dm3⟩ := zcz (xn s.gen s.pages (zQ c (zH d.size))) d
 have hget := fun i (hi : i < s.pages.length) => zgE (gen := s.gen) (ps := s.pages) (l := zQ c (zH d.size)) (by omega) (i := i) (by omega)
 obtain ⟨f1, f2, f3, f4⟩ := vV w2
 have fd := vG (wrL d (xn s.gen s.pages (zQ c (zH d.size)))).1
 unfold yI
 generalize (xn s.gen s.pages (zQ c (zH d.size))) = L at *
 generalize hr : (wrL d L) = r at *
 have hp0 : (xu s).2 = 0 := by rw [kE hchk]
 have hpl := (zcT hchk).1
 have hs2 : ((((mkB (xu s).1).size : Nat)) : Int) = r.1.flush.1.size := by rw [xm, hpl, fd.1, dm1, hsz]
 have hsl : 0 <= slot /\ slot < r.1.flush.1.blocks := by rw [fd.2.1, dm2]; omega
 obtain ⟨q1, q2, q3⟩ := vo f2.ok hsl hs2 f2.fuse
 have hrw := fun (j : Int) (hj : 0 <= j /\ j < r.1.flush.1.blocks) => xR f2.ok hsl hs2 (by rw [f2.fuse]; decide) (j := j) hj
 have hw0 := (hrw slot hsl).1
 obtain ⟨y1, y2, y3, y4⟩ := vV (d := (r.1.flush.1.write slot (mkB (xu s).1)).1) ⟨q1, q2⟩
 rw [if_neg (fun hh => hh w1), if_neg (fun hh => hh f1), if_neg (fun hh => hh hp0), if_neg (fun hh => hh hw0)]
 refine ⟨?_, fun j hj hjb hjs hno => ?_, fun i hi => ?_⟩
 ·rw [y4, (hrw slot hsl).2, if_pos rfl]
 ·rw [y4 j, (hrw j (by rw [fd.2.1, dm2]; omega)).2, if_neg hjs, f4 j, w3 j ⟨hj, hjb⟩ (fun p hp => hno p.1 (hL p hp).1)]
 ·have hg := hget i hi
  have hm := List.mem_of_getElem? hg
  have h2 := hps _ (hL _ hm).1
  dsimp only at h2
  rw [y4, (hrw _ (by rw [fd.2.1, dm2]; omega)).2, if_neg (by omega), f4, w4 _ hm]
structure zgJ (S : Spa) : Prop where
 slot : S.slot = 0 \/ S.slot = 1
 chk : chk S.sup = 0
 cur : ky (B (S.dev.read S.slot).1) = (S.sup, 0)
 old : (ky (B (S.dev.read (other S.slot)).1)).2 ≠ 0 \/ (ky (B (S.dev.read (other S.slot)).1)).1.gen < S.sup.gen
 pgs : ∀ i, i < S.sup.pages.length -> (S.dev.read ((S.sup.pages.getD i 0 : Nat) : Int)).1 = mkB (yt S.dev.size.toNat ((2 : UInt8), S.sup.gen, (zQ S.held (zH S.dev.size)).getD i ByteArray.empty))
 fit : ∀ c ∈ S.held, c < 65536
def MW (N : Nat) (ps : List Nat) (pg : PgF) : Option (List Nat) -> Option (List Nat) -> Prop
 | none, none => True
 | some l, some m => zZ N ps pg l m
 | _, _ => False
structure Great (S : Spa) (R H : List Nat) (M : Option (List Nat)) : Prop where
 good : Good S R
 heldOK : zgJ S
 hwell : zZ S.N S.sup.pages S.page S.held H
 mwell : MW S.N S.sup.pages S.page S.mark M
 room : S.sup.pages.length <= S.zV
theorem MW.uH {N : Nat} {ps : List Nat} {pg pg' : PgF} {l m : Option (List Nat)} (h : MW N ps pg l m) (ho : ∀ n, cnt l n ≠ 0 -> 2 <= n -> n < N -> pg' n = pg n) : MW N ps pg' l m := by
 cases l with
 | none => cases m with
  | none => trivial
  | some _ => exact h.elim
 | some l => cases m with
  | none => exact h.elim
  | some m =>
   have h : zZ N ps pg l m := h
   refine zZ.uH h (fun n hn => ho n ?_ ?_ (h.lt hn))
   ·have := (zN.1 hn).2.2
    show l.getD n 0 ≠ 0
    omega
   ·exact (zN.1 hn).1
theorem zgJ.zmV {S : Spa} {R : List Nat} (h : zgJ S) (hg : Good S R) : zpp S := by
 obtain ⟨⟨c1, c2, c3, c4⟩, c5, c6⟩ := zaC h.chk
 have hN : S.sup.blocks = (S.N : Int) := hg.dims.blocks
 have h4 := zcd (size := S.sup.size) (N := S.N) (by rw [<- hN]; exact c1)
 rw [hN, h4] at c4
 refine ⟨hg.well.pgs, ?_, by unfold zF at c4; omega⟩
 rw [List.nodup_iff_pairwise_ne, List.pairwise_iff_getElem]
 intro i j hi hj hij e
 apply (c5 j hj).2.2
 rw [List.getD_eq_getElem?_getD, List.getElem?_eq_getElem hj, Option.getD_some, <- e]
 exact List.mem_take_iff_getElem.2 ⟨i, by omega, rfl⟩
theorem zkm {S : Spa} {R H : List Nat} {M : Option (List Nat)} {p : Page} (h : Great S (p.2.1 ++ R) H M) (ht : 3 <= p.1.toNat) (hk : (p.2.1.length : Int) <= S.room 0 / 4) (hd : (p.2.2.size : Int) <= S.room p.2.1.length) (hfree : S.sup.pages.length < S.zV) :
  (S.put p).2.2 = 0 /\ vz S (S.put p).1 p (S.put p).2.1 /\ Great (S.put p).1 ((S.put p).2.1 :: R) H M := by
 obtain ⟨h1, h2, h3⟩ := zdv h.good ht hk hd hfree
 refine ⟨h1, h2, ?_⟩
 generalize (S.put p).1 = S' at *
 generalize (S.put p).2.1 = n at *
 have hN : S'.N = S.N := by unfold Spa.N; rw [h2.sup]
 obtain ⟨f1, f2, f3⟩ := zP.1 h2.free
 have hb := h.good.dims.blocks
 have hn := h.good.dims.n
 have ho := h.heldOK
 have hslot : ∀ j : Int, j = 0 \/ j = 1 -> (S'.dev.read j).1 = (S.dev.read j).1 := fun j hj => h2.read j (by omega) (by omega) (by have := h2.two; omega)
 refine ⟨h3, ⟨?_, ?_, ?_, ?_, ?_, ?_⟩, ?_, ?_, ?_⟩
 ·rw [h2.slot]; exact ho.slot
 ·rw [h2.sup]; exact ho.chk
 ·rw [h2.slot, h2.sup, hslot _ ho.slot]; exact ho.cur
 ·rw [h2.slot, h2.sup, hslot _ (by unfold other; split <;> simp)]; exact ho.old
 ·intro i hi
  rw [h2.sup] at hi ⊢
  rw [h2.held, h2.dim.1, h2.read _ (by omega) ?_ ?_]
  ·exact ho.pgs i hi
  ·have := (h.good.well.pgs (S.sup.pages.getD i 0) (by rw [List.getD_eq_getElem?_getD, List.getElem?_eq_getElem hi]; exact List.getElem_mem _)).2.1
   omega
  ·intro e
   have e : S.sup.pages.getD i 0 = n := by omega
   apply h2.pgs
   rw [<- e, List.getD_eq_getElem?_getD, List.getElem?_eq_getElem hi]; exact List.getElem_mem _
 ·rw [h2.held]; exact ho.fit
 ·rw [hN, h2.sup, h2.held]
  exact zZ.uH h.hwell (fun m hm => h2.other m (fun e => by subst e; have := (zN.1 hm).2.2; omega) (h.hwell.lt hm))
 ·rw [hN, h2.sup, h2.mark]
  exact h.mwell.uH (fun m hm _ hmN => h2.other m (fun e => by subst e; exact hm f3) hmN)
 ·have := h2.z8
  have hh := h.room
  rw [h2.sup]
  unfold Spa.zV at hfree ⊢
  rw [this] at hfree
  simp only [List.length_cons] at hfree
  omega
theorem Great.j7 {S : Spa} {R R' H : List Nat} {M : Option (List Nat)} {c : List Nat} (h : Great S R H M) (hg : Good { S with now := c } R') (hr : S.sup.pages.length <= ({ S with now := c } : Spa).zV) : Great { S with now := c } R' H M :=
 ⟨hg, ⟨h.heldOK.slot, h.heldOK.chk, h.heldOK.cur, h.heldOK.old, h.heldOK.pgs, h.heldOK.fit⟩, h.hwell, h.mwell, hr⟩
theorem Great.perm {S : Spa} {R R' H : List Nat} {M : Option (List Nat)} (h : Great S R H M) (hp : R.Perm R') : Great S R' H M := ⟨h.good.perm hp, h.heldOK, h.hwell, h.mwell, h.room⟩
end V
/- Spaces that are well: Commit, Format, Mark, Back, Done, Share, Drop: plain. -/
namespace V
open Go Go.Proofs Go.RowKit Crc
theorem zmy {size : Int} {N : Nat} (h : zT size N = true) : 2 * zF size N + 2 <= N := by
 obtain ⟨h8, n, hn, h1, h2⟩ := zdp h
 obtain rfl : N = n := by omega
 obtain ⟨hp1, hp2, _⟩ := jQ h8
 have hx : yl N (zH size) <= (N + 55) / 56 := by
  unfold yl
  rw [Nat.div_le_iff_le_mul_add_pred (by omega)]
  have h3 : N + 55 < 56 * ((N + 55) / 56 + 1) := Nat.lt_mul_div_succ _ (by omega)
  have h4 : 56 * ((N + 55) / 56) <= zH size * ((N + 55) / 56) := Nat.mul_le_mul_right _ hp1
  omega
 unfold zF
 omega
theorem zkn (n : Nat) : (ky (B (yw n))).2 ≠ 0 := by
 intro h
 obtain ⟨h1, h2⟩ := zoh h
 have hc := zih (s := (ky (B (yw n))).1) (by rw [h1])
 rw [kE hc] at h1
 injection h1 with h1 _
 have h3 : (B (yw n)).getD 0 0 = 0 := by
  unfold yw
  have : ∀ k : Nat, (List.replicate k (0 : UInt8)).getD 0 0 = 0 := fun k => by cases k <;> rfl
  first
   | (rw [jx]; exact this _)
   | (rw [xj]; exact this _)
 rw [<- h1] at h3
 have h4 : (yt (ky (B (yw n))).1.size.toNat (vl (ky (B (yw n))).1)).getD 0 0 = 1 := by
  unfold yt xI ke
  rfl
 rw [h4] at h3
 cases h3
theorem uI {d : Dev} (h : kT d) (hchk : chk (yW d.size d.blocks.toNat) = 0) : (yv d).2 = 0 /\ Great (qi d) [] [] none /\ (qi d).dev.pen = [] := by
 obtain ⟨g1, g2, g3⟩ := zhI h hchk
 refine ⟨g1, ?_, g3⟩
 obtain ⟨z, N, e1, e2, e3, e4, e5, e6, e7, e8⟩ := h.ok.facts
 have hN : d.blocks.toNat = N := by omega
 have hg : zT d.size (N : Int) = true := by rw [<- e2]; exact h.ok.geo
 obtain ⟨n1, n2, n3⟩ := zaF hg
 have n4 := zmy hg
 rw [hN] at hchk
 have hz : (((yw d.size.toNat).size : Nat) : Int) = d.size := by rw [za3]; omega
 have h1 : 0 <= (1 : Int) /\ (1 : Int) < d.blocks := by omega
 obtain ⟨q1, q2, q3⟩ := vo h.ok h1 hz h.fuse
 have hw0 := (xR h.ok h1 hz (by rw [h.fuse]; decide) h1).1
 have hw1 := (xR h.ok h1 hz (by rw [h.fuse]; decide) h1).2
 have hwd := jE d 1 (yw d.size.toNat)
 have hpm : ∀ p, p ∈ xw (zF d.size N) ↔ 2 <= p /\ p < 2 + zF d.size N := fun p => by
  unfold xw
  constructor
  ·intro hp
   obtain ⟨i, hi, rfl⟩ := List.mem_map.1 hp
   have := List.mem_range.1 hi
   omega
  ·intro hp
   exact List.mem_map.2 ⟨p - 2, List.mem_range.2 (by omega), by omega⟩
 have hnd : (xw (zF d.size N)).Nodup := by
  unfold xw
  rw [List.nodup_iff_pairwise_ne, List.pairwise_map]
  exact List.Pairwise.imp (fun hab e => by omega) List.pairwise_lt_range
 have hfl := qM (N := N) (np := zF d.size N) n1
 obtain ⟨r1, r2, r3⟩ := zgI (d := (d.write 1 (yw d.size.toNat)).1) ⟨q1, q2⟩ (c := yf N (zF d.size N)) (s := yW d.size N) (slot := 0) hchk hwd.1.symm (fun p hp => by have := (hpm p).1 hp; rw [hwd.2.1]; omega) hnd (.inl rfl) (by rw [hwd.1, hfl]; exact j8 _)
 have eD : yv d = yI (d.write 1 (yw d.size.toNat)).1 (yf N (zF d.size N)) (yW d.size N) 0 := by
  unfold yv
  rw [hN, if_neg (fun hh => hh hchk), if_neg (fun hh => hh hw0)]
 have dm := zaj (d.write 1 (yw d.size.toNat)).1 (yf N (zF d.size N)) (yW d.size N) 0
 have eS : qi d = ⟨(yv d).1, yW d.size N, 0, yf N (zF d.size N), yf N (zF d.size N), none⟩ := by unfold qi; rw [hN]
 rw [eS] at g2 ⊢
 refine ⟨g2, ⟨.inl rfl, hchk, ?_, .inl ?_, ?_, ?_⟩, g2.well, trivial, ?_⟩
 ·show ky (B ((yv d).1.read 0).1) = _
  rw [eD, r1, xj]
  exact zmo (zcb hg) (by rw [kE hchk])
 ·show (ky (B ((yv d).1.read 1).1)).2 ≠ 0
  rw [eD, r2 1 (by omega) (by rw [hwd.2.1]; omega) (by omega) (fun p hp => by have := (hpm p).1 hp; omega), hw1, if_pos rfl]
  exact zkn _
 ·intro i hi
  show ((yv d).1.read (((xw (zF d.size N)).getD i 0 : Nat) : Int)).1 = mkB (yt (yv d).1.size.toNat ((2 : UInt8), 1, (zQ (yf N (zF d.size N)) (zH (yv d).1.size)).getD i ByteArray.empty))
  rw [eD, dm.1]
  exact r3 i hi
 ·intro c hc
  have hc : c ∈ yf N (zF d.size N) := hc
  unfold yf at hc
  rw [List.mem_append, List.mem_replicate, List.mem_replicate] at hc
  omega
 ·show (xw (zF d.size N)).length <= List.length _
  rw [j8]
  have := uS (a := (List.range (zF d.size N)).map (· + (2 + zF d.size N))) (b := Spa.z8 ⟨(yv d).1, yW d.size N, 0, yf N (zF d.size N), yf N (zF d.size N), none⟩) ?_ ?_
  ·rw [List.length_map, List.length_range] at this
   exact this
  ·rw [List.nodup_iff_pairwise_ne, List.pairwise_map]
   exact List.Pairwise.imp (fun hab e => by omega) List.pairwise_lt_range
  ·intro k hk
   obtain ⟨i, hi, rfl⟩ := List.mem_map.1 hk
   have := List.mem_range.1 hi
   refine vH.2 ⟨by show i + (2 + zF d.size N) < ((N : Int)).toNat; omega, by omega, zP.2 ⟨?_, ?_, rfl⟩⟩
   ·show (yf N (zF d.size N)).getD _ 0 = 0
    rw [kz n1, if_neg (by omega)]
   ·show (yf N (zF d.size N)).getD _ 0 = 0
    rw [kz n1, if_neg (by omega)]
theorem Great.less {S : Spa} {R R' H : List Nat} {M : Option (List Nat)} {c : List Nat} (h : Great S R H M) (hg : Good { S with now := c } R') (hle : ∀ k, c.getD k 0 <= S.now.getD k 0) : Great { S with now := c } R' H M := by
 refine h.j7 hg (Nat.le_trans h.room (zed rfl fun n hn => ?_))
 obtain ⟨f1, f2, f3⟩ := zP.1 hn
 exact zP.2 ⟨by have := hle n; show c.getD n 0 = 0; omega, f2, f3⟩
theorem Great.more {S : Spa} {R R' H : List Nat} {M : Option (List Nat)} {n : Nat} (h : Great S R H M) (hu : zI S.sup.pages S.now n = true) (hg : Good { S with now := S.now.set n (S.now.getD n 0 + 1) } R') : Great { S with now := S.now.set n (S.now.getD n 0 + 1) } R' H M := by
 refine h.j7 hg (Nat.le_trans h.room (zed rfl fun k hk => ?_))
 obtain ⟨f1, f2, f3⟩ := zP.1 hk
 refine zP.2 ⟨?_, f2, f3⟩
 show (S.now.set n (S.now.getD n 0 + 1)).getD k 0 = 0
 have := (zN.1 hu).2.2
 rw [ym, if_neg (fun e => by rw [e.1] at this; omega)]
 exact f1
end V
/- Blobs: plain. -/
namespace V
open Go Go.Proofs Go.RowKit Crc
structure Kept (S S' : Spa) : Prop where
 sup : S'.sup = S.sup
 held : S'.held = S.held
 mark : S'.mark = S.mark
 slot : S'.slot = S.slot
 dim : S'.dev.size = S.dev.size /\ S'.dev.blocks = S.dev.blocks
 read : ∀ k : Int, 0 <= k -> k < S.N -> (k.toNat < 2 \/ S.yq k.toNat = false) -> (S'.dev.read k).1 = (S.dev.read k).1
structure Puts (S Si : Spa) (R ks : List Nat) (ps : List Page) : Prop where
 good : Good Si (ks ++ R)
 sup : Si.sup = S.sup
 held : Si.held = S.held
 mark : Si.mark = S.mark
 slot : Si.slot = S.slot
 len : ps.length = ks.length
 free : S.z8 = ks ++ Si.z8
 page : ∀ j, j < ks.length -> Si.page (ks.getD j 0) = (ps.getD j yU, 0)
 other : ∀ k, k < S.N -> k ∉ ks -> Si.page k = S.page k
 now : ∀ k, Si.now.getD k 0 = if k ∈ ks then 1 else S.now.getD k 0
 nlen : Si.now.length = S.now.length
 pen : Si.dev.pen.length = S.dev.pen.length + ks.length
 read : ∀ k : Int, 0 <= k -> k < S.N -> k.toNat ∉ ks -> (Si.dev.read k).1 = (S.dev.read k).1
 dim : Si.dev.size = S.dev.size /\ Si.dev.blocks = S.dev.blocks
theorem Puts.N {S Si : Spa} {R ks : List Nat} {ps : List Page} (h : Puts S Si R ks ps) : Si.N = S.N := by unfold Spa.N; rw [h.sup]
theorem Puts.nil {S : Spa} {R : List Nat} (h : Good S R) : Puts S S R [] [] := ⟨h, rfl, rfl, rfl, rfl, rfl, rfl, fun j hj => absurd hj (Nat.not_lt_zero j), fun _ _ _ => rfl, fun _ => by simp, rfl, rfl, fun _ _ _ _ => rfl, rfl, rfl⟩
theorem Puts.mem {S Si : Spa} {R ks : List Nat} {ps : List Page} (h : Puts S Si R ks ps) {k : Nat} (hk : k ∈ ks) : 2 <= k /\ k < S.N /\ S.yq k = true /\ k ∉ S.sup.pages := by
 have hm : k ∈ S.z8 := by rw [h.free]; exact List.mem_append_left _ hk
 obtain ⟨h1, h2, h3⟩ := vH.1 hm
 refine ⟨h2, h1, h3, fun hp => ?_⟩
 have hpg := (h.good.well.pgs k (by rw [h.sup]; exact hp)).2.2
 have hu := h.good.well.root k (List.mem_append_left _ hk)
 have := (zN.1 hu).2.1
 rw [h.sup] at this
 exact this hp
theorem Puts.kept {S Si : Spa} {R ks : List Nat} {ps : List Page} (h : Puts S Si R ks ps) : Kept S Si :=
 ⟨h.sup, h.held, h.mark, h.slot, h.dim, fun k h0 hk hf => h.read k h0 hk (fun hm => by
  obtain ⟨a1, a2, a3, a4⟩ := h.mem hm
  rcases hf with hf | hf
  ·omega
  ·rw [hf] at a3; cases a3)⟩
theorem Puts.step {S Si : Spa} {R ks : List Nat} {ps : List Page} (h : Puts S Si R ks ps) {t : UInt8} {d : ByteArray} (ht : 3 <= t.toNat) (hd : (d.size : Int) <= Si.room 0) (hfree : Si.sup.pages.length < Si.zV) :
  (Si.put (t, [], d)).2.2 = 0 /\ Puts S (Si.put (t, [], d)).1 R (ks ++ [(Si.put (t, [], d)).2.1]) (ps ++ [(t, [], d)]) := by
 have hdim := h.good.dims
 have hsz := hdim.size
 have hr0 : Si.room 0 = Si.sup.size - 18 := by unfold Spa.room; rw [hdim.room, if_neg (by omega)]; omega
 obtain ⟨h1, h2, h3⟩ := zdv (p := (t, [], d)) (R := ks ++ R) h.good ht (by show (0 : Int) <= _; omega) hd hfree
 refine ⟨h1, ?_⟩
 generalize (Si.put (t, [], d)).2.1 = n at *
 generalize (Si.put (t, [], d)).1 = S' at *
 have hnk : n ∉ ks := fun hk => by
  have hf := (zP.1 h2.free).1
  rw [h.now n, if_pos hk] at hf
  cases hf
 refine ⟨h3.perm ?_, h2.sup.trans h.sup, h2.held.trans h.held, h2.mark.trans h.mark, h2.slot.trans h.slot, by simp [h.len], ?_, fun j hj => ?_, fun k hk hks => ?_, fun k => ?_, ?_, ?_, fun k h0 hk hks => ?_, h2.dim.1.trans h.dim.1, h2.dim.2.trans h.dim.2⟩
 ·rw [List.append_assoc]
  exact List.perm_middle.symm
 ·rw [h.free, h2.z8, List.append_assoc, List.singleton_append]
 ·rw [List.length_append, List.length_singleton] at hj
  by_cases hjl : j < ks.length
  ·rw [show (ks ++ [n]).getD j 0 = ks.getD j 0 by rw [List.getD_eq_getElem?_getD, List.getElem?_append_left hjl, <- List.getD_eq_getElem?_getD], show (ps ++ [((t, [], d) : Page)] : List Page).getD j yU = ps.getD j yU by rw [List.getD_eq_getElem?_getD, List.getElem?_append_left (by rw [h.len]; exact hjl), <- List.getD_eq_getElem?_getD]]
   have hmem : ks.getD j 0 ∈ ks := by rw [List.getD_eq_getElem?_getD, List.getElem?_eq_getElem hjl]; exact List.getElem_mem hjl
   rw [h2.other _ (fun e => hnk (e ▸ hmem)) (by rw [h.N]; exact (h.mem hmem).2.1), h.page j hjl]
  ·obtain rfl : j = ks.length := by omega
   rw [show (ks ++ [n]).getD ks.length 0 = n by simp, show (ps ++ [((t, [], d) : Page)] : List Page).getD ks.length yU = (t, [], d) by rw [<- h.len]; simp]
   exact h2.page
 ·simp only [List.mem_append, List.mem_singleton, not_or] at hks
  rw [h2.other k hks.2 (by rw [h.N]; exact hk), h.other k hk hks.1]
 ·rw [h2.now, ym, h.now k]
  have hnl : n < Si.now.length := by have := h2.lt; rw [h.good.ok.now]; exact this
  by_cases hkn : n = k
  ·subst hkn
   rw [if_pos ⟨rfl, hnl⟩, if_pos (by simp)]
  ·rw [if_neg (fun e => hkn e.1)]
   by_cases hk : k ∈ ks
   ·rw [if_pos hk, if_pos (List.mem_append_left _ hk)]
   ·rw [if_neg hk, if_neg (fun e => by rcases List.mem_append.1 e with e | e; exact hk e; exact hkn (List.mem_singleton.1 e).symm)]
 ·rw [h2.now, List.length_set]; exact h.nlen
 ·rw [h2.pen, h.pen, List.length_append, List.length_singleton]; omega
 ·simp only [List.mem_append, List.mem_singleton, not_or] at hks
  rw [h2.read k h0 (by rw [h.N]; exact hk) (by omega), h.read k h0 hk hks.1]
theorem zgK {S : Spa} {R : List Nat} {p : Page} (h : Good S (p.2.1 ++ R)) (ht : 3 <= p.1.toNat) (hk : (p.2.1.length : Int) <= S.room 0 / 4) (hd : (p.2.2.size : Int) <= S.room p.2.1.length) (hfree : S.zV <= S.sup.pages.length) : S.put p = (S, 0, 9) := by
 have hdim := h.dims
 have hsz := hdim.size
 have hr0 : S.room 0 = S.sup.size - 18 := by unfold Spa.room; rw [hdim.room, if_neg (by omega)]; omega
 have hku : ∀ k ∈ p.2.1, zI S.sup.pages S.now k = true := fun k hk => h.well.root k (List.mem_append_left _ hk)
 have hE0 : S.jC p = 9 := by
  unfold Spa.jC
  rw [if_neg, if_neg, if_neg, if_pos hfree]
  ·rintro (e | e) <;> omega
  ·rintro ⟨k, hk, e⟩
   exact (qa h (hku k hk)).2.1 e
  ·rintro (e | e | ⟨k, hk, e⟩)
   ·omega
   ·omega
   ·rw [(qa h (hku k hk)).1] at e; cases e
 unfold Spa.put
 rw [if_pos (by rw [hE0]; simp), hE0]
inductive Drps (ask : Nat -> Bool) (pg : PgF) : List Nat -> List Nat -> List Nat -> Prop
 | nil (c : List Nat) : Drps ask pg c [] c
 | cons {c c1 c' ks : List Nat} {k : Nat} {e : Int} : (ask k = true -> Drp ask pg c [k] c1 e) -> (ask k = false -> c1 = c /\ e = 2) -> Drps ask pg c1 ks c' -> Drps ask pg c (k :: ks) c'
theorem zc1 {ask : Nat -> Bool} {pg : PgF} : ∀ (ks c : List Nat), ks.Nodup -> (∀ k ∈ ks, ask k = true /\ 2 <= k /\ k < c.length /\ c.getD k 0 = 1 /\ (pg k).2 = 0 /\ yp pg k = []) -> ∃ c', Drps ask pg c ks c' /\ c'.length = c.length /\ ∀ k, c'.getD k 0 = if k ∈ ks then 0 else c.getD k 0
 | [], c, _, _ => ⟨c, .nil c, rfl, fun k => by simp⟩
 | a :: t, c, hnd, h => by
  obtain ⟨h1, h2, h3, h4, h5, h6⟩ := h a List.mem_cons_self
  obtain ⟨hat, hnd⟩ := List.nodup_cons.1 hnd
  have ea : atE c a = 0 := by unfold atE; rw [if_neg (by omega), if_neg (by omega)]
  have es : xg c a = c.set a 0 := by unfold xg; rw [if_pos ea, h4]
  obtain ⟨c', g1, g2, g3⟩ := zc1 t (c.set a 0) hnd (fun k hk => by
   obtain ⟨k1, k2, k3, k4, k5, k6⟩ := h k (List.mem_cons_of_mem _ hk)
   refine ⟨k1, k2, by rw [List.length_set]; exact k3, ?_, k5, k6⟩
   rw [ym, if_neg (show ¬ (a = k /\ k < c.length) from fun e => hat (e.1 ▸ hk))]
   exact k4)
  refine ⟨c', .cons (c1 := c.set a 0) (e := 0) (fun _ => .last h4 h1 h5 (by rw [h6, es]; exact .nil _)) (fun e => by rw [h1] at e; cases e) g1, by rw [g2, List.length_set], fun k => ?_⟩
  rw [g3 k, ym]
  by_cases hk : k ∈ t
  ·rw [if_pos hk, if_pos (List.mem_cons_of_mem _ hk)]
  ·rw [if_neg hk]
   by_cases hak : a = k
   ·subst hak
    rw [if_pos ⟨rfl, h3⟩, if_pos List.mem_cons_self]
   ·rw [if_neg (fun e => hak e.1), if_neg (fun e => by rcases List.mem_cons.1 e with e | e; exact hak e.symm; exact hk e)]
theorem zhJ (S : Spa) : S.z8.Nodup := by
 unfold Spa.z8
 exact List.Pairwise.filter _ List.nodup_range
theorem Puts.undo {S Si : Spa} {R ks : List Nat} {ps : List Page} (h : Puts S Si R ks ps) (h0 : Good S R) (hp : ∀ j, j < ks.length -> (ps.getD j yU).2.1 = []) :
  ∃ c', Drps Si.asked Si.page Si.now ks c' /\ c' = S.now /\ Good { Si with now := c' } R := by
 have hnd : ks.Nodup := by
  have := zhJ S
  rw [h.free] at this
  exact (List.nodup_append.1 this).1
 have hkl : ∀ k ∈ ks, ∃ j, j < ks.length /\ ks.getD j 0 = k := fun k hk => by
  obtain ⟨j, hj, e⟩ := List.mem_iff_getElem.1 hk
  exact ⟨j, hj, by rw [List.getD_eq_getElem?_getD, List.getElem?_eq_getElem hj]; exact e⟩
 obtain ⟨c', g1, g2, g3⟩ := zc1 (ask := Si.asked) (pg := Si.page) ks Si.now hnd (fun k hk => by
  obtain ⟨m1, m2, m3, m4⟩ := h.mem hk
  obtain ⟨j, hj, e⟩ := hkl k hk
  have hpj := h.page j hj
  rw [e] at hpj
  refine ⟨vF.2 ⟨m1, by rw [h.N]; exact m2, by rw [h.sup]; exact m4⟩, m1, by rw [h.good.ok.now, h.N]; exact m2, by rw [h.now k, if_pos hk], by rw [hpj], by unfold yp; rw [hpj]; exact hp j hj⟩)
 have ec : c' = S.now := by
  refine qs (by rw [g2, h.nlen]) (fun k => ?_)
  rw [g3 k, h.now k]
  by_cases hk : k ∈ ks
  ·rw [if_pos hk]
   have := (zP.1 (h.mem hk).2.2.1).1
   omega
  ·rw [if_neg hk, if_neg hk]
 refine ⟨c', g1, ec, ?_⟩
 rw [ec]
 refine h.good.j7 (by rw [h.nlen]) ?_
 rw [h.N, h.sup]
 refine h0.well.uH (fun m hm => ?_)
 refine h.other m (h0.well.lt hm) (fun hk => ?_)
 have := (zP.1 (h.mem hk).2.2.1).1
 have := (zN.1 hm).2.2
 omega
def nparts (r len : Nat) : Nat := (len + r - 1) / r
def part (r : Nat) (b : ByteArray) (i : Nat) : ByteArray := b.extract (i * r) (min b.size ((i + 1) * r))
def vA (r : Nat) (b : ByteArray) (n : Nat) : List Page := (List.range n).map fun i => ((7 : UInt8), [], part r b i)
theorem zjl (r : Nat) (b : ByteArray) (n : Nat) : vA r b (n + 1) = vA r b n ++ [((7 : UInt8), [], part r b n)] := by simp [vA, List.range_succ]
theorem zce {r len i : Nat} (hr : 1 <= r) : i < nparts r len ↔ i * r < len := ux hr
theorem zcf {r : Nat} {b : ByteArray} {i : Nat} (hr : 1 <= r) (h : i < nparts r b.size) : (part r b i).size = min r (b.size - i * r) /\ 1 <= (part r b i).size := by
 have := (zce hr).1 h
 unfold part
 rw [ByteArray.size_extract]
 have e : (i + 1) * r = i * r + r := by rw [Nat.add_mul, Nat.one_mul]
 rw [e]
 omega
theorem zee {r : Nat} (hr : 1 <= r) (b : ByteArray) : ∀ n, n <= nparts r b.size -> ((List.range n).flatMap fun i => B (part r b i)) = (B b).take (n * r)
 | 0, _ => by simp
 | n + 1, h => by
  have ih := zee hr b n (by omega)
  rw [List.range_succ, List.flatMap_append, ih]
  have hlt := (zce (r := r) (len := b.size) (i := n) hr).1 (by omega)
  have e : (n + 1) * r = n * r + r := by rw [Nat.add_mul, Nat.one_mul]
  simp only [List.flatMap_cons, List.flatMap_nil, List.append_nil]
  unfold part
  rw [jy, e, List.take_add]
  congr 1
  have hl : (B b).length = b.size := (yg b).symm
  rcases Nat.le_total b.size (n * r + r) with hh | hh
  ·rw [Nat.min_eq_left hh, List.take_of_length_le (by rw [List.length_drop]; omega), List.take_of_length_le (by rw [List.length_drop]; omega)]
  ·rw [Nat.min_eq_right hh, show n * r + r - n * r = r by omega]
def Spa.r0 (S : Spa) : Nat := (S.room 0).toNat
def qD (r : Nat) : Nat := min 65536 ((r - 4) / 4 * r)
structure Blob (S : Spa) (n : Nat) (b : ByteArray) (ks : List Nat) : Prop where
 idx : S.get n = (((6 : UInt8), ks, mkB (le 4 b.size)), 0)
 len : ks.length = nparts S.r0 b.size
 data : ∀ i, i < ks.length -> S.get (ks.getD i 0) = (((7 : UInt8), [], part S.r0 b i), 0)
 most : b.size <= qD S.r0
end V
/- Spaces that are well, and blobs; what may have changed is told by Kept: plain. -/
namespace V
open Go Go.Proofs Go.RowKit Crc
end V
/- Trees of at most two levels: plain. -/
namespace V
open Go Go.Proofs Go.RowKit Crc
structure Mk (S S' : Spa) (ks : List Nat) : Prop where
 sup : S'.sup = S.sup
 held : S'.held = S.held
 mark : S'.mark = S.mark
 slot : S'.slot = S.slot
 dim : S'.dev.size = S.dev.size /\ S'.dev.blocks = S.dev.blocks
 z8 : S.z8 = ks ++ S'.z8
 now : ∀ k, S'.now.getD k 0 = if k ∈ ks then 1 else S.now.getD k 0
 other : ∀ k, k < S.N -> k ∉ ks -> S'.page k = S.page k
 read : ∀ k : Int, 0 <= k -> k < S.N -> k.toNat ∉ ks -> (S'.dev.read k).1 = (S.dev.read k).1
 pen : S'.dev.pen.length = S.dev.pen.length + ks.length
theorem Mk.refl (S : Spa) : Mk S S [] := ⟨rfl, rfl, rfl, rfl, ⟨rfl, rfl⟩, rfl, fun k => by simp, fun _ _ _ => rfl, fun _ _ _ _ => rfl, rfl⟩
theorem Mk.N {S S' : Spa} {ks : List Nat} (h : Mk S S' ks) : S'.N = S.N := by unfold Spa.N; rw [h.sup]
theorem Mk.trans {S S1 S2 : Spa} {ks ls : List Nat} (h : Mk S S1 ks) (g : Mk S1 S2 ls) : Mk S S2 (ks ++ ls) := by
 have hN := h.N
 refine ⟨g.sup.trans h.sup, g.held.trans h.held, g.mark.trans h.mark, g.slot.trans h.slot, ⟨g.dim.1.trans h.dim.1, g.dim.2.trans h.dim.2⟩, by rw [h.z8, g.z8, List.append_assoc], fun k => ?_, fun k hk hn => ?_, fun k h0 hk hn => ?_, by rw [g.pen, h.pen, List.length_append, Nat.add_assoc]⟩
 ·rw [g.now, h.now]
  by_cases e1 : k ∈ ls
  ·rw [if_pos e1, if_pos (List.mem_append_right _ e1)]
  ·rw [if_neg e1]
   by_cases e2 : k ∈ ks
   ·rw [if_pos e2, if_pos (List.mem_append_left _ e2)]
   ·rw [if_neg e2, if_neg (fun e => by rcases List.mem_append.1 e with e | e; exact e2 e; exact e1 e)]
 ·rw [List.mem_append, not_or] at hn
  rw [g.other k (by omega) hn.2, h.other k hk hn.1]
 ·rw [List.mem_append, not_or] at hn
  rw [g.read k h0 (by omega) hn.2, h.read k h0 hk hn.1]
theorem vz.mk_ {S S' : Spa} {p : Page} {n : Nat} (h : vz S S' p n) (hl : S.now.length = S.N) : Mk S S' [n] := by
 refine ⟨h.sup, h.held, h.mark, h.slot, h.dim, h.z8, fun k => ?_, fun k hk hn => h.other k (fun e => hn (by simp [e])) hk, fun k h0 hk hn => h.read k h0 hk (fun e => hn (by simp [e])), h.pen⟩
 have := h.lt
 rw [h.now, ym, hl]
 by_cases e : k = n
 ·subst e; rw [if_pos ⟨rfl, this⟩, if_pos (List.mem_singleton.2 rfl)]
 ·rw [if_neg (fun e' => e e'.1.symm), if_neg (fun e' => e (List.mem_singleton.1 e'))]
theorem Puts.mk_ {S Si : Spa} {R ks : List Nat} {ps : List Page} (h : Puts S Si R ks ps) : Mk S Si ks :=
 ⟨h.sup, h.held, h.mark, h.slot, h.dim, h.free, h.now, h.other, h.read, h.pen⟩
theorem Mk.free {S S' : Spa} {ks : List Nat} (h : Mk S S' ks) : S.zV = S'.zV + ks.length := by
 unfold Spa.zV
 rw [h.z8, List.length_append]; omega
theorem Mk.mem {S S' : Spa} {ks : List Nat} (h : Mk S S' ks) {k : Nat} (hk : k ∈ ks) : k < S.N /\ 2 <= k /\ S.yq k = true := vH.1 (by rw [h.z8]; exact List.mem_append_left _ hk)
theorem Mk.used {S S' : Spa} {ks R : List Nat} (h : Mk S S' ks) (hg : Good S R) {k : Nat} (hu : zI S.sup.pages S.now k = true) : S'.page k = S.page k /\ S'.now.getD k 0 = S.now.getD k 0 /\ k ∉ ks := by
 have hn : k ∉ ks := fun hk => by
  have := (zP.1 (h.mem hk).2.2).1
  have := (zN.1 hu).2.2
  omega
 exact ⟨h.other k (hg.well.lt hu) hn, by rw [h.now, if_neg hn], hn⟩
theorem Mk.room {S S' : Spa} {ks : List Nat} (h : Mk S S' ks) (k : Int) : S'.room k = S.room k := by unfold Spa.room; rw [h.sup]
theorem Mk.r0 {S S' : Spa} {ks : List Nat} (h : Mk S S' ks) : S'.r0 = S.r0 := by unfold Spa.r0; rw [h.room]
abbrev Nd := UInt8 × List Nat × List Nat × List Nat
def k8B (l : List Nat) : List UInt8 := l.flatMap (le 8)
theorem vW : ∀ l : List Nat, (k8B l).length = 8 * l.length
 | [] => rfl
 | x :: r => by
  have := vW r
  unfold k8B at this ⊢
  rw [List.flatMap_cons, List.length_append, zv, this, List.length_cons]; omega
def xE : List Nat -> Bool
 | [] => true
 | [_] => true
 | x :: y :: r => decide (x < y) && xE (y :: r)
inductive qN : Page -> Nd -> Prop
 | refs (ks kids : List Nat) : ks.length = kids.length -> 1 <= ks.length -> xE ks = true -> (∀ k ∈ ks, k < 18446744073709551616) -> qN ((5 : UInt8), kids, mkB (k8B ks)) ((5 : UInt8), ks, [], kids)
 | inner (ks kids : List Nat) : ks.length = kids.length -> 2 <= ks.length -> xE ks = true -> (∀ k ∈ ks, k < 18446744073709551616) -> qN ((3 : UInt8), kids, mkB (k8B ks)) ((3 : UInt8), ks, [], kids)
 | leaf (k v : Nat) : k < 18446744073709551616 -> v < 18446744073709551616 -> qN ((4 : UInt8), [], mkB (k8B [k, v])) ((4 : UInt8), [k], [v], [])
theorem qE : ∀ {l : List Nat}, xE l = true ↔ ∀ i, i + 1 < l.length -> l.getD i 0 < l.getD (i + 1) 0
 | [] => by simp [xE]
 | [_] => by simp [xE]
 | x :: y :: r => by
  have ih := qE (l := y :: r)
  simp only [xE, Bool.and_eq_true, decide_eq_true_iff]
  constructor
  ·rintro ⟨h1, h2⟩ i hi
   cases i with
   | zero => exact h1
   | succ i => exact ih.1 h2 i (by simpa using hi)
  ·intro h
   exact ⟨h 0 (by simp), ih.2 fun i hi => h (i + 1) (by simpa using hi)⟩
theorem zcg {l : List Nat} (h : xE l = true) : ∀ (d i : Nat), i + d + 1 < l.length -> l.getD i 0 < l.getD (i + d + 1) 0
 | 0, i, hi => qE.1 h i hi
 | d + 1, i, hi => Nat.lt_trans (zcg h d i (by omega)) (qE.1 h (i + d + 1) (by omega))
theorem zhK {l : List Nat} (h : xE l = true) (n : Nat) : xE (l.take n) = true := by
 rw [qE] at h ⊢
 intro i hi
 rw [List.length_take] at hi
 have e : ∀ j, j < n -> (l.take n).getD j 0 = l.getD j 0 := fun j hj => by rw [List.getD_eq_getElem?_getD, List.getElem?_take, if_pos hj, <- List.getD_eq_getElem?_getD]
 rw [e i (by omega), e (i + 1) (by omega)]
 exact h i (by omega)
theorem zhL {l : List Nat} (h : xE l = true) (n : Nat) : xE (l.drop n) = true := by
 rw [qE] at h ⊢
 intro i hi
 rw [List.length_drop] at hi
 have e : ∀ j, (l.drop n).getD j 0 = l.getD (n + j) 0 := fun j => by rw [List.getD_eq_getElem?_getD, List.getElem?_drop, <- List.getD_eq_getElem?_getD]
 rw [e i, e (i + 1)]
 exact h (n + i) (by omega)
def jj (S : Spa) (n : Nat) (ks vs : List Nat) : Prop := S.page n = (((5 : UInt8), vs, mkB (k8B ks)), 0) /\ ks.length = vs.length /\ 1 <= ks.length /\ xE ks = true /\ ∀ k ∈ ks, k < 18446744073709551616
inductive kU (S : Spa) (n : Nat) (ks vs : List Nat) : Prop
 | one : jj S n ks vs -> kU S n ks vs
 | two (m a b : Nat) : 1 <= m -> m < ks.length -> ks.length = vs.length -> xE ks = true -> (∀ k ∈ ks, k < 18446744073709551616) -> S.page n = (((3 : UInt8), [a, b], mkB (k8B [ks.getD 0 0, ks.getD m 0])), 0) ->
   jj S a (ks.take m) (vs.take m) -> jj S b (ks.drop m) (vs.drop m) -> kU S n ks vs
theorem jj.ok {S : Spa} {n : Nat} {ks vs : List Nat} (h : jj S n ks vs) : qN (S.page n).1 ((5 : UInt8), ks, [], vs) := by
 rw [h.1]; exact qN.refs ks vs h.2.1 h.2.2.1 h.2.2.2.1 h.2.2.2.2
theorem jj.keep {S S' : Spa} {n : Nat} {ks vs : List Nat} (h : jj S n ks vs) (e : S'.page n = S.page n) : jj S' n ks vs := by
 unfold jj; rw [e]; exact h
theorem kU.len {S : Spa} {n : Nat} {ks vs : List Nat} (h : kU S n ks vs) : ks.length = vs.length := by
 cases h with
 | one h => exact h.2.1
 | two m a b h1 h2 h3 => exact h3
end V
/- Contracts of the package tree: words, parse, get. -/
namespace V
open Go Go.Proofs Go.RowKit Crc
theorem kA : jN Tryz.prog 129 42 (.int .u64 0) 1 8 := ⟨by kernel_rfl, by kernel_rfl, by kernel_rfl⟩
theorem zil : ∀ (ks : List Nat) (i : Nat), i < ks.length -> ((k8B ks).drop (8 * i)).take 8 = le 8 (ks.getD i 0)
 | [], i, h => by simp at h
 | k :: r, 0, h => by
  unfold k8B
  rw [List.flatMap_cons, Nat.mul_zero, List.drop_zero, List.take_left' (zv 8 k)]
  rfl
 | k :: r, i + 1, h => by
  have ih := zil r i (by simpa using h)
  unfold k8B at ih ⊢
  rw [List.flatMap_cons, show 8 * (i + 1) = 8 + 8 * i by omega, <- List.drop_drop, List.drop_left' (zv 8 k), ih]
  rfl
theorem zhM {w : World} {s : ByteArray} {ks : List Nat} (hs : B s = k8B ks) (h64 : ∀ k ∈ ks, k < 18446744073709551616) (hn : ks.length <= 10000) :
  Calls Tryz.prog 217 #[.string s] w (Ret fun v w' => ∃ A c, v = .tuple #[.slice A ks.length c, .bool true] /\ Owni (zu .u64) 42 w' w.heap.size A ks.length c ks /\ Ext w w') := by
 have hss : s.size = 8 * ks.length := by rw [yg, hs, vW]
 apply zl0
 unfold S217
 refine zr fun r1 w1 hb1 he1 hr1 hz1 => ?_
 refine kN (u := .string) (e := 5) (by kernel_rfl) (by kernel_rfl) (by kernel_rfl) (by omega) ?_
 intro cc w2 hsl he2 hs2 hcc
 refine zb (zgk (k := 8) (by omega) hcc (by dsimp only; omega)) ?_
 rintro v w3 ⟨hit, hRc, hs3, he3⟩
 refine ⟨v, rfl, ?_⟩
 dsimp only at hit hRc
 have he := (he1.trans he2).trans he3
 have hsl := hsl.ext he3
 have hb1 := hb1.ext (he2.trans he3)
 have hcn : (qm 1 (some ⟨w1.heap.size, 0, none⟩) s.size 8).length = ks.length := by rw [xA]; unfold yl; omega
 refine zaw (R := zct w2.heap.size (w2.heap.size + 1) (some ⟨w1.heap.size, 0, none⟩) s.size cc 8) (fun i w' => Ext w w' /\ zct w2.heap.size (w2.heap.size + 1) (some ⟨w1.heap.size, 0, none⟩) s.size cc 8 w' /\ Sl w' (some ⟨w1.heap.size, 0, none⟩) s.size (bV (B s)) /\ ∃ A c, Blk w' r1 [.slice A i c] 129 /\ Owni (zu .u64) 42 w' (w3.heap.size + 2) A i c (ks.take i)) hit (fun i w' hI => hI.2.1) (fun i w' hI => ⟨hI.1.drew, hI.2⟩) ?_ ?_ ?_ ?_
 ·rintro i w' w'' hsb ⟨e1, ⟨e2, e3⟩, e6, A, c, e4, e5⟩
  have hkeep : ∀ j : Nat, j < w3.heap.size -> w''.heap[j]? = w'.heap[j]? := fun j hj => hsb.2.2.2.2 j (by omega) (by omega)
  refine ⟨e1.qh hsb (by omega) (by omega), ⟨(hkeep _ (by omega)).trans e2, (hkeep _ (by omega)).trans e3⟩, ⟨e6.1, e6.2.1, fun hn => ?_⟩, A, c, (hkeep _ (by omega)).trans e4, e5.qh hsb (by omega) (by omega)⟩
  obtain ⟨a, ha, hcell⟩ := e6.2.2 hn
  refine ⟨a, ha, fun j v hj => ?_⟩
  injection ha with ha
  subst ha
  have := hcell j v hj
  rw [zz] at this ⊢
  simp only [World.cell?] at this ⊢
  rw [hkeep _ (by omega)]
  exact this
 ·intro o
  have hx := ((Ext.refl w3).alloc (.deferred (some []))).alloc o
  exact ⟨he.trans hx, ⟨hRc.1.ext hx, hRc.2.ext hx⟩, hsl.ext hx, none, 0, hb1.ext hx, Owni.nil _ _ _⟩
 ·rintro i hi w' N jump ⟨e1, ⟨e2, e3⟩, e6, A, c, e4, e5⟩ hsz' hN
  rw [hcn] at hi
  have hcut : (qm 1 (some ⟨w1.heap.size, 0, none⟩) s.size 8)[i]'(by rw [hcn]; exact hi) = [.slice (zm (some ⟨w1.heap.size, 0, none⟩) (i * 8) (i * 8 + 8) 1) 8 8] := by
   have : min 8 (s.size - i * 8) = 8 := by omega
   simp [qm, this]
  refine ⟨((zm (some ⟨w1.heap.size, 0, none⟩) (i * 8) (i * 8 + 8) 1, 8, 8), ()), hcut.symm, ?_⟩
  dsimp only
  have hsub := e6.cut (l := i * 8) (k := 8) (m := i * 8 + 8) (by omega) (by omega)
  rw [vj, qU, hs, Nat.mul_comm i 8, zil ks i hi, Nat.mul_comm 8 i] at hsub
  refine zK fun w4 he4 hz4 hh4 => ?_
  have f4 := e4.ext he4
  have f5 := e5.ext he4
  refine zo (x := (A, i, c)) f4 (by rfl) ?_
  refine zb (qJ (hsub.ext he4) (by omega)) ?_
  rintro _ w5 ⟨rfl, he5⟩
  have hk : ks.getD i 0 < 18446744073709551616 := by
   rw [List.getD_eq_getElem?_getD, List.getElem?_eq_getElem hi]
   exact h64 _ (List.getElem_mem _)
  refine ⟨_, rfl, ?_⟩
  rw [uv, Nat.mod_eq_of_lt (by exact hk)]
  have f4 := f4.ext he5
  have f5 := f5.ext he5
  refine xC (z6 f4 rfl) ?_
  have he45 := he4.trans he5
  have hz45 := he45.size
  refine zr fun r12 w6 hb6 he6 hr6 hz6 => ?_
  refine xC (z6 (f4.ext he6) rfl) ?_
  have f4 := f4.ext he6
  have f5 := f5.ext he6
  have hx : Sli (zu .u64) w6 (some ⟨r12, 0, none⟩) 1 [ks.getD i 0] := Sli.xJ (E := zu .u64) (xs := [ks.getD i 0]) hb6 rfl (by omega)
  refine xi kA f5 (by omega) hx (by dsimp only; omega) (by omega) ?_
  intro A2 c2 w7 ho7 hg7 _
  have hr1l : r1 < w3.heap.size := by have := hb1.lt; omega
  have f4 : Blk w7 r1 _ _ := f4.grown hg7.grown (fun hh => by have := f5.row _ hh.symm; omega)
  refine zO f4 (by simp) ?_
  have hset := f4.set 0 (.slice A2 (i + 1) c2)
  have he46 := he45.trans he6
  have e7 : Ext w w7 := (e1.trans he46).grown hg7.grown (fun j hj => by have := f5.row j hj; omega)
  have hx7 : ∀ k, k < w3.heap.size + 2 -> w7.heap[k]? = w'.heap[k]? := fun k hk => by
   rw [hg7.grown.block k (by omega) (fun hh => by have := f5.row _ hh.symm; omega)]
   exact he46.block k (by omega)
  have hx8 : ∀ k, k < w3.heap.size + 2 -> k ≠ r1 -> (w7.setCell ⟨r1, 0, none⟩ (.slice A2 (i + 1) c2)).heap[k]? = w'.heap[k]? := fun k hk hne => by
   rw [Below.heap_setCell _ _ _ _ (fun e => hne e)]
   exact hx7 k hk
  have hg8 := hg7.grown.size
  refine hN _ ⟨e7.set (by simp only; omega) _, ⟨?_, ?_⟩, ⟨e6.1, e6.2.1, fun hn => ?_⟩, A2, c2, hset, ?_⟩ ?_ ?_
  ·exact (hx8 _ (by omega) (by omega)).trans e2
  ·exact (hx8 _ (by omega) (by omega)).trans e3
  ·obtain ⟨a, ha, hcell⟩ := e6.2.2 hn
   refine ⟨a, ha, fun j v hj => ?_⟩
   injection ha with ha
   subst ha
   have := hcell j v hj
   rw [zz] at this ⊢
   simp only [World.cell?] at this ⊢
   rw [hx8 _ (by omega) (by omega)]
   exact this
  ·have e9 : ks.take (i + 1) = ks.take i ++ [ks.getD i 0] := by
    rw [List.take_succ_eq_append_getElem hi, List.getD_eq_getElem?_getD, List.getElem?_eq_getElem hi]; rfl
   rw [e9]
   refine ho7.grown (row := some r1) ⟨rfl, rfl, rfl, by simp, fun k hk hne => Below.heap_setCell _ _ _ _ (fun e => hne (by rw [e]))⟩ (fun j hj he => ?_)
   injection hj with hj
   have := ho7.row _ he
   omega
  ·have := he46.size
   simp
   omega
  ·intro k hk
   exact hx8 k (by omega) (by omega)
 ·rintro w' ⟨e1, ⟨e2, e3⟩, e6, A, c, e4, e5⟩ hsz' hd
  rw [hcn] at e4 e5
  rw [List.take_of_length_le (by omega)] at e5
  have hr1l : r1 < w3.heap.size := by have := hb1.lt; omega
  show (ldW _ _ _) w'
  refine zo (x := (A, ks.length, c)) e4 (by rfl) ?_
  dsimp only
  refine zO e4 (by simp) ?_
  have hset := e4.set 0 (.slice A ks.length c)
  refine jn (by rw [Below.heap_setCell _ _ _ _ (by simp only; omega)]; exact hd) ?_
  refine zo (x := (A, ks.length, c)) (show Blk _ r1 [.slice A ks.length c] 129 from (zL (by omega)).trans hset) (by rfl) ?_
  refine ⟨A, c, ?_, ?_, (e1.set (by simp only; omega) _).yr (by omega) _⟩
  ·rw [show Int.tmod ((s.size : Nat) : Int) 8 = 0 by rw [hss, show ((8 * ks.length : Nat) : Int) = 8 * (ks.length : Int) by omega, Int.mul_tmod_right]]
   rfl
  have e6 := e5.grown (w' := w'.setCell ⟨r1, 0, none⟩ (.slice A ks.length c)) (row := some r1) ⟨rfl, rfl, rfl, by simp, fun k hk hne => Below.heap_setCell _ _ _ _ (fun e => hne (by rw [e]))⟩ (fun j hj he => by
   injection hj with hj
   have := e5.row _ he
   omega)
  have e7 : Owni (zu .u64) 42 (yr (w'.setCell ⟨r1, 0, none⟩ (.slice A ks.length c)) w3.heap.size (.deferred none)) (w3.heap.size + 2) A ks.length c ks :=
   e6.qh (zX (b := w3.heap.size) (.inl rfl)) (by omega) (by omega)
  exact e7.lower (by omega)
end V
/- Contracts of the package tree: parse. -/
namespace V
open Go Go.Proofs Go.RowKit Crc
theorem Owni.sDf {α : Type} {E : Enc α} {e : TypeId} {Bd : Nat} {w w' : World} {B : Nat} {A : Option Addr} {n c : Nat} {xs : List α} (h : Owni E e w B A n c xs) (hs : zdX Bd w w') : Owni E e w' B A n c xs := by
 refine ⟨h.1, ?_⟩
 rcases h.2 with hn | ⟨g, cap, cur, hv, hb, hgg, rest⟩
 ·exact .inl hn
 ·exact .inr ⟨g, cap, cur, hv, hb, (hs.2.2.2.2 g (.inr (by rw [hgg]; simp))).trans hgg, rest⟩
def ndV (t : UInt8) (x y z : SLC) : List Value := [.int .u8 (t.toNat : Int), .slice x.1 x.2.1 x.2.2, .slice y.1 y.2.1 y.2.2, .slice z.1 z.2.1 z.2.2]
abbrev qO : List Lf := [.int .u8, .slc, .slc, .slc]
def ndT (t : UInt8) (x y z : SLC) : Int × SLC × SLC × SLC × Unit := ((t.toNat : Int), x, y, z, ())
theorem qZ (t : UInt8) (x y z : SLC) : ∀ v ∈ ndV t x y z, v.oneCell' = true := by
 intro v hv
 simp only [ndV, List.mem_cons, List.not_mem_nil, or_false] at hv
 rcases hv with rfl | rfl | rfl | rfl <;> rfl
def zbd (r1 r2 : Nat) (A : Option Addr) (n c k : Nat) : WP := fun w => Blk w r1 [.slice A n c] 129 /\ Blk w r2 [.int .i64 (k : Int)] 3
theorem zfE {w : World} {A : Option Addr} {n c k : Nat} (hk : 1 <= k) (hnc : n <= c) (hnk : n + k <= 9223372036854775807) : Calls Tryz.prog 218 #[.slice A n c, .int .i64 (k : Int)] w (Ret fun v w' => Iter Tryz.prog v (qm 1 A n k) (zbd w.heap.size (w.heap.size + 1) A n c k) /\ zbd w.heap.size (w.heap.size + 1) A n c k w' /\ w'.heap.size = w.heap.size + 2 /\ Ext w w') := by
 apply zl1
 unfold S218
 refine zr fun r1 w1 hb1 he1 hr1 hz1 => ?_
 refine zr fun r2 w2 hb2 he2 hr2 hz2 => ?_
 subst hr1
 have hr2 : w.heap.size + 1 = r2 := by omega
 subst hr2
 refine zo (x := (k : Int)) hb2 (by rfl) ?_
 refine zc (decide_eq_false (by omega)) ?_
 refine ⟨⟨_, _, rfl, by kernel_rfl, fun l J w' hJ hR hd hY => ?_⟩, ⟨hb1.ext he2, hb2⟩, by omega, he1.trans he2⟩
 apply zl4
 exact zaZ (P := Tryz.prog) hk hnc hnk hJ hR hd hY
structure zak (w : World) (N : Nat) (d : Nd) (x y z : SLC) : Prop where
 ks : Owni (zu .u64) 42 w N x.1 x.2.1 x.2.2 d.2.1
 vs : Owni (zu .u64) 42 w N y.1 y.2.1 y.2.2 d.2.2.1
 kids : Sli (zu .u32) w z.1 z.2.1 d.2.2.2
theorem zhN {w : World} {p : Page} {d : Nd} {y : SLC} (hd : qN p d) (hs : Sli (zu .u32) w y.1 y.2.1 p.2.1) (hn : d.2.1.length <= 5000) :
  Calls Tryz.prog 202 #[.agg (pgV p y).toArray] w (Ret fun v w' => ∃ x z, v = .tuple #[.agg (ndV d.1 x z y).toArray, .int .i64 0] /\ zak w' w.heap.size d x z y /\ Ext w w') := by
 apply zlQ
 unfold S202
 refine zr fun r1 w1 hb1 he1 hr1 hz1 => ?_
 refine zr fun r2 w2 hb2 he2 hr2 hz2 => ?_
 have hb1 : Blk w2 r1 (pgV p y) 56 := hb1.ext he2
 refine zn 2 p.2.2 hb1 (by rfl) ?_
 have hkid : d.2.2.2 = p.2.1 := by cases hd <;> rfl
 obtain ⟨ks0, hks0, hB, hk64, hk0⟩ : ∃ ks0 : List Nat, ks0 = d.2.1 ++ d.2.2.1 /\ B p.2.2 = k8B ks0 /\ (∀ k ∈ ks0, k < 18446744073709551616) /\ ks0.length <= 5000 := by
  cases hd with
  | refs ks kids h1 h2 h3 h4 => exact ⟨ks, by simp, xj _, h4, hn⟩
  | inner ks kids h1 h2 h3 h4 => exact ⟨ks, by simp, xj _, h4, hn⟩
  | leaf k v h1 h2 => exact ⟨[k, v], rfl, xj _, fun q hq => by
    simp only [List.mem_cons, List.not_mem_nil, or_false] at hq
    rcases hq with rfl | rfl
    ·exact h1
    ·exact h2, by simp⟩
 refine zb (zhM hB hk64 (by omega)) ?_
 rintro _ w3 ⟨A, c, rfl, ho, he3⟩
 refine ⟨((A, ks0.length, c), true, ()), rfl, ?_⟩
 have hb1 := hb1.ext he3
 have hb2 := hb2.ext he3
 refine zE ((p.1.toNat : Nat) : Int) hb1 (by rfl) ?_
 refine zn 1 y hb1 (by rfl) ?_
 dsimp only
 have hlt1 := hb1.lt
 have hlt2 := hb2.lt
 have hs2 := he2.size
 have hs3 := he3.size
 have he := (he1.trans he2).trans he3
 refine refill (vs := ndV p.1 (A, ks0.length, c) (none, 0, 0) y) hb2 (by rfl) (qZ _ _ _ _) (by rfl) ?_
 intro w4 hb2 hx4 hk4 hz4
 have he4 : Ext w w4 := hx4 w he (by omega)
 have hb1 : Blk w4 r1 (pgV p y) 56 := (hk4 r1 (by omega)).trans hb1
 have ho4 : Owni (zu .u64) 42 w4 (r2 + 1) A ks0.length c ks0 := by
  refine (ho.only (F := fun k => k = r2) ⟨?_, ?_, ?_, Nat.le_of_eq hz4.symm, fun k _ hk => hk4 k hk⟩ (fun j hj e => by have := ho.row j hj; have : j = r2 := e; omega)).lower (by omega)
  ·exact (hx4 w he (by omega)).os.trans he.os.symm
  ·exact (hx4 w he (by omega)).tape.trans he.tape.symm
  ·exact (hx4 w he (by omega)).output.trans he.output.symm
 have hs4 := hs.ext he4
 have hsn := hs.len
 refine yB (fun (t : Bool × Int × List Deferred × Unit) w' => ∃ (x z : SLC) (m : Nat), t = (true, (m : Int), t.2.2.1, ()) /\ m <= d.2.1.length /\ Ext w w' /\ Blk w' r2 (ndV d.1 x z y) 215 /\ zak w' (r2 + 1) d x z y /\ Dfs w.heap.size w' t.2.2.1) ?_ (fun J hJ => ?_)
 rotate_left
 ·refine zE ((p.1.toNat : Nat) : Int) hb1 (by rfl) ?_
  cases hd with
  | refs ks kids h1 h2 h3 h4 =>
   obtain rfl : ks0 = ks := by rw [hks0]; simp
   refine zc (by rfl) (zc (by rfl) (zf (by rfl) (zf (by rfl) ?_)))
   refine zn 1 y hb1 (by rfl) ?_
   refine hJ _ _ ⟨(A, ks0.length, c), (none, 0, 0), 1, ?_, h2, he4, hb2, ⟨ho4, Owni.nil _ _ _, hs4⟩, trivial⟩
   rw [show ((((ks0.length : Nat) : Int) == ((y.2.1 : Nat) : Int))) = true from beq_iff_eq.2 (by dsimp only at hsn; omega)]
   rfl
  | inner ks kids h1 h2 h3 h4 =>
   obtain rfl : ks0 = ks := by rw [hks0]; simp
   refine zc (by rfl) (zf (by rfl) (zf (by rfl) ?_))
   refine zn 1 y hb1 (by rfl) ?_
   refine hJ _ _ ⟨(A, ks0.length, c), (none, 0, 0), 2, ?_, h2, he4, hb2, ⟨ho4, Owni.nil _ _ _, hs4⟩, trivial⟩
   rw [show ((((ks0.length : Nat) : Int) == ((y.2.1 : Nat) : Int))) = true from beq_iff_eq.2 (by dsimp only at hsn; omega)]
   rfl
  | leaf k v h1 h2 =>
   obtain rfl : ks0 = [k, v] := hks0
   refine zf (by rfl) ?_
   refine stE (o := 1) hb2 (by rw [zz]) (by show 1 < 4; omega) ?_
   intro w5 hb25 o5
   have he5 : Ext w w5 := Only.ext he4 o5 (fun j hj => by have : j = r2 := hj; omega)
   have hb15 := hb1.only o5 (show ¬ r1 = r2 by omega)
   have ho5 := ho4.only o5 (fun j hj e => by have := ho4.row j hj; have : j = r2 := e; omega)
   have hA := ho5.le
   refine zb (zfE (k := 2) (by omega) (show 2 <= c from hA.1) (by omega)) ?_
   rintro vv w6 ⟨hit, hRc, hs6, he6⟩
   refine ⟨vv, rfl, ?_⟩
   dsimp only at hit hRc hb25
   have hb26 := hb25.ext he6
   have hb16 := hb15.ext he6
   have ho6 := ho5.ext he6
   have hw5 := he5.size
   have hl25 := hb25.lt
   have hl15 := hb15.lt
   have hAl : ∀ j, orow A = some j -> j < w5.heap.size := ho5.yc
   have hcn : (qm 1 A 2 2).length = 1 := by rw [xA]; rfl
   refine zaw (R := zbd w5.heap.size (w5.heap.size + 1) A 2 c 2) (fun i w' => Ext w w' /\ zbd w5.heap.size (w5.heap.size + 1) A 2 c 2 w' /\ Sli (zu .u64) w' A 2 [k, v] /\ Blk w' r1 (pgV ((4 : UInt8), [], mkB (k8B [k, v])) y) 56 /\ ∃ x z : SLC, (i = 0 -> x = (none, 0, 0) /\ z = (none, 0, 0)) /\ True /\ Blk w' r2 (ndV 4 x z y) 215 /\ Owni (zu .u64) 42 w' (w6.heap.size + 2) x.1 x.2.1 x.2.2 ([k].take i) /\ Owni (zu .u64) 42 w' (w6.heap.size + 2) z.1 z.2.1 z.2.2 ([v].take i)) hit (fun i w' hI => hI.2.1) (fun i w' hI => ⟨hI.1.drew, hI.2⟩) ?_ ?_ ?_ ?_
   ·rintro i w' w'' hsb ⟨e1, ⟨e2, e3⟩, e4, e5, x, z, x1, z1, e6, e7, e8⟩
    have hkeep : ∀ j : Nat, j < w6.heap.size -> w''.heap[j]? = w'.heap[j]? := fun j hj => hsb.2.2.2.2 j (by omega) (by omega)
    exact ⟨e1.qh hsb (by omega) (by omega), ⟨(hkeep _ (by omega)).trans e2, (hkeep _ (by omega)).trans e3⟩, e4.congr (fun a ha => hkeep _ (by have := hAl a.block (by rw [ha]; rfl); omega)), (hkeep _ (by omega)).trans e5, x, z, x1, z1, (hkeep _ (by omega)).trans e6, e7.qh hsb (by omega) (by omega), e8.qh hsb (by omega) (by omega)⟩
   ·intro o
    have hx := ((Ext.refl w6).alloc (.deferred (some []))).alloc o
    exact ⟨(he5.trans he6).trans hx, ⟨hRc.1.ext hx, hRc.2.ext hx⟩, ho6.sl.ext hx, hb16.ext hx, (none, 0, 0), (none, 0, 0), fun _ => ⟨rfl, rfl⟩, trivial, hb26.ext hx, Owni.nil _ _ _, Owni.nil _ _ _⟩
   ·rintro i hi w' N jump ⟨e1, ⟨e2, e3⟩, e4, e5, x, z, x1, z1, e6, e7, e8⟩ hsz' hN
    have hi : i < 1 := by simpa [xA, yl] using hi
    obtain rfl : i = 0 := by omega
    obtain ⟨rfl, rfl⟩ := x1 rfl
    refine ⟨((zm A 0 2 1, 2, 2), ()), by simp [qm], ?_⟩
    dsimp only
    have hsub := e4.cut (l := 0) (k := 2) (m := 2) (z := 1) rfl (by omega) (by omega)
    rw [List.drop_zero, List.take_of_length_le (by simp)] at hsub
    refine zK fun w7 he7 hz7 hh7 => ?_
    refine zn 1 ((none, 0, 0) : SLC) (e6.ext he7) (by rfl) ?_
    refine zR (hsub.ext he7) (by omega) (by omega) ?_
    refine zr fun r20 w8 hb8 he8 hr8 hz8 => ?_
    have he78 := he7.trans he8
    refine xC (yK (e6.ext he78) rfl) ?_
    have hx1 : Sli (zu .u64) w8 (some ⟨r20, 0, none⟩) 1 [k] := Sli.xJ (E := zu .u64) (xs := [k]) hb8 rfl (by omega)
    refine xi kA (Owni.nil 42 w8 (w6.heap.size + 2)) (by have := he78.size; omega) hx1 (by dsimp only; omega) (by omega) ?_
    intro A2 c2 w9 ho9 hg9 _
    have he9 : Ext w' w9 := he78.none hg9.grown
    refine stE (o := 1) (e6.ext he9) (by rw [zz]) (by show 1 < 4; omega) ?_
    intro w10 hb10 o10
    have hw9 := he9.size
    have he10 : ∀ q, q <= r2 -> q < w6.heap.size -> True := fun _ _ _ => trivial
    have hl26 := hb26.lt
    refine zK fun w11 he11 hz11 hh11 => ?_
    refine zn 2 ((none, 0, 0) : SLC) (hb10.ext he11) (by rfl) ?_
    have hsub11 : Sli (zu .u64) w11 (zm A 0 2 1) 2 [k, v] := ((hsub.ext he9).only o10 (fun a ha hh => by
     have h2 : orow A = some a.block := by
      unfold zm at ha
      rw [if_neg (by omega)] at ha
      cases A with
      | none => cases ha
      | some a0 => injection ha with ha; rw [<- ha]; rfl
     have := ho4.row _ h2
     have : a.block = r2 := hh
     omega)).ext he11
    rw [show IntKind.wrap .i64 (((2 : Nat) : Int) - 1) = 1 from by decide]
    refine zR hsub11 (by omega) (by omega) ?_
    refine zr fun r25 w12 hb12 he12 hr12 hz12 => ?_
    have he1112 := he11.trans he12
    refine xC (yK (hb10.ext he1112) rfl) ?_
    have hx2 : Sli (zu .u64) w12 (some ⟨r25, 0, none⟩) 1 [v] := Sli.xJ (E := zu .u64) (xs := [v]) hb12 rfl (by omega)
    have hs10 := o10.2.2.2.1
    have hs1112 := he1112.size
    refine xi kA (Owni.nil 42 w12 (w6.heap.size + 2)) (by omega) hx2 (by dsimp only; omega) (by omega) ?_
    intro A3 c3 w13 ho13 hg13 _
    have he13 : Ext w10 w13 := he1112.none hg13.grown
    refine stE (o := 2) (hb10.ext he13) (by rw [zz]) (by show 2 < 4; omega) ?_
    intro w14 hb14 o14
    have hs13 := he13.size
    have hs14 := o14.2.2.2.1
    have ho9' : Owni (zu .u64) 42 w14 (w6.heap.size + 2) A2 1 c2 [k] := ((ho9.only o10 (fun j hj e => by have := ho9.row j hj; have : j = r2 := e; omega)).ext he13).only o14 (fun j hj e => by have := ho9.row j hj; have : j = r2 := e; omega)
    have ho13' : Owni (zu .u64) 42 w14 (w6.heap.size + 2) A3 1 c3 [v] := ho13.only o14 (fun j hj e => by have := ho13.row j hj; have : j = r2 := e; omega)
    have hall : ∀ j, j < w'.heap.size -> j ≠ r2 -> w14.heap[j]? = w'.heap[j]? := fun j hj hne => by
     rw [o14.2.2.2.2 j (by omega) hne, he13.block j (by omega), o10.2.2.2.2 j (by omega) hne, he9.block j hj]
    refine hN _ ⟨Only.ext (Only.ext (e1.trans he9) o10 (fun j hj => by have : j = r2 := hj; omega) |>.trans he13) o14 (fun j hj => by have : j = r2 := hj; omega), ⟨(hall _ (by omega) (by omega)).trans e2, (hall _ (by omega) (by omega)).trans e3⟩, e4.congr (fun a ha => ?_), (hall _ (by omega) (by omega)).trans e5, (A2, 1, c2), (A3, 1, c3), fun e => by omega, trivial, hb14, ho9', ho13'⟩ (by omega) (fun q hq => hall q (by omega) (by omega))
    have h2 : orow A = some a.block := by rw [ha]; rfl
    have h3 := hAl _ h2
    have := ho4.row _ h2
    exact hall _ (by omega) (by omega)
   ·rintro w' ⟨e1, ⟨e2, e3⟩, e4, e5, x, z, x1, z1, e6, e7, e8⟩ hsz' hd
    rw [show (qm 1 A [k, v].length 2).length = 1 by simp [xA, yl]] at e7 e8
    show (za _ _ _) w'
    refine zf (by rfl) (zf (show (Int.tmod ((2 : Nat) : Int) 2 == 0) = true by decide) ?_)
    refine zn 1 y e5 (by rfl) ?_
    refine hJ _ _ ⟨x, z, 1, ?_, by simp, e1, e6, ⟨e7.lower (B' := r2 + 1) (by omega), e8.lower (B' := r2 + 1) (by omega), hs.ext e1⟩, ⟨_, rfl, by omega, hd, by simp, trivial⟩⟩
    rw [show (((y.2.1 : Nat) : Int) == 0) = true from beq_iff_eq.2 (by have : 0 = y.2.1 := hsn; omega)]
    rfl
 rintro t w5 ⟨x, z, m, et, hm, he5, k2, hN, hD⟩
 have hrise : xE d.2.1 = true := by
  cases hd with
  | refs ks kids h1 h2 h3 h4 => exact h3
  | inner ks kids h1 h2 h3 h4 => exact h3
  | leaf k v h1 h2 => rfl
 have hxl := hN.ks.len
 rw [et]
 dsimp only
 refine zx (fun t' w' => ∃ i : Nat, 1 <= i /\ i <= d.2.1.length + 1 /\ t' = (true, (i : Int), ()) /\ Ext w w' /\ Blk w' r2 (ndV d.1 x z y) 215 /\ zak w' (r2 + 1) d x z y /\ Dfs w.heap.size w' t.2.2.1) (fun t' => (d.2.1.length + 1 - t'.2.1).toNat) ⟨1, by omega, by omega, rfl, he5, k2, hN, hD⟩ ?_
 rintro _ w6 ⟨i, hi1, hi, rfl, he6, k2, hN, hD⟩
 dsimp only
 refine zn 1 x k2 (by rfl) ?_
 by_cases hlt : i < x.2.1
 ·refine zf (decide_eq_true (by omega)) ?_
  refine zK fun w7 he7 hz7 hh7 => ?_
  have k27 := k2.ext he7
  refine zf rfl ?_
  refine zn 1 x k27 (by rfl) ?_
  rw [show IntKind.wrap .i64 ((i : Int) - 1) = ((i - 1 : Nat) : Int) by rw [wrap_i64 (by omega) (by omega)]; omega]
  refine zR (hN.ks.sl.ext he7) (by omega) (by omega) ?_
  refine zn 1 x k27 (by rfl) ?_
  refine zR (hN.ks.sl.ext he7) (by omega) (by omega) ?_
  rw [Int.toNat_natCast, Int.toNat_natCast]
  have := qE.1 hrise (i - 1) (by omega)
  rw [show i - 1 + 1 = i by omega] at this
  refine ⟨⟨i + 1, by omega, by omega, ?_, he6.trans he7, k27, ⟨hN.ks.ext he7, hN.vs.ext he7, hN.kids.ext he7⟩, hD.kept fun k h1 _ => he7.heap h1⟩, ?_⟩
  ·rw [show decide (((d.2.1.getD (i - 1) 0 : Nat) : Int) < ((d.2.1.getD i 0 : Nat) : Int)) = true from decide_eq_true (by omega), wrap_i64 (by omega) (by omega)]
   rfl
  ·rw [wrap_i64 (by omega) (by omega)]; omega
 ·refine zc (decide_eq_false (by omega)) ?_
  refine zc (by rfl) ?_
  refine zn 1 x k2 (by rfl) ?_
  refine zc (decide_eq_false (by omega)) ?_
  refine zW (ls := qO) (ndT d.1 x z y) k2 (by rfl) ?_
  refine refill (vs := ndV d.1 x z y) k2 (by rfl) (qZ _ _ _ _) (by rfl) ?_
  intro w7 k27 hx7 hk7 hz7
  have he7 : Ext w w7 := hx7 w he6 (by omega)
  have o7 : Only (fun k => k = r2) w6 w7 := ⟨he7.os.trans he6.os.symm, he7.tape.trans he6.tape.symm, he7.output.trans he6.output.symm, Nat.le_of_eq hz7.symm, fun k _ hk => hk7 k hk⟩
  have hN7 : zak w7 (r2 + 1) d x z y := ⟨hN.ks.only o7 (fun j hj e => by have := hN.ks.row j hj; have : j = r2 := e; omega), hN.vs.only o7 (fun j hj e => by have := hN.vs.row j hj; have : j = r2 := e; omega), hkid ▸ hs.ext he7⟩
  refine ze7 _ w7 (hD.kept fun k h1 _ => by
   by_cases e : k = r2
   ·subst e
    have := k2
    unfold Blk at this
    rw [h1] at this
    cases this
   ·exact (hk7 k e).trans h1) fun w8 hs8 => ?_
  refine zW (ls := qO) (ndT d.1 x z y) (k27.zdY hs8) (by rfl) ?_
  refine ⟨x, z, rfl, ⟨(hN7.ks.sDf hs8).lower (by omega), (hN7.vs.sDf hs8).lower (by omega), hkid ▸ hs.ext (he7.zdY hs8)⟩, he7.zdY hs8⟩
end V
/- Spaces of one's own: contracts, short. -/
namespace V
open Go Go.Proofs Go.RowKit Crc
def At (w0 w : World) (b db : Nat) (S : Spa) : Prop := ∃ F, ya w b db S F /\ (∀ k, F k -> w0.heap.size <= k) /\ Ext w0 w
variable {w0 w w' : World} {b db : Nat} {S : Spa} {R : List Nat}
theorem zfP {size blocks : Int} (h : zT size blocks = true) : kT (zdl size blocks) := ⟨zig h, rfl⟩
theorem zko {w1 : World} {d : Dev} {db : Nat} (h : zgr w0 d db w1) (hd : kT d) (hpen : d.pen.length <= 800000) :
  Calls Tryz.prog 69 #[.pointer (some ⟨db, 0, none⟩)] w1 (Ret fun v w' => ((yv d).2 ≠ 0 /\ v = .tuple #[.pointer none, .int .i64 (yv d).2] /\ Ext w0 w') \/ ((yv d).2 = 0 /\ ∃ b, v = .tuple #[.pointer (some ⟨b, 0, none⟩), .int .i64 0] /\ At w0 w' b db (qi d))) := by
 obtain ⟨F, h1, h2, hx⟩ := h
 refine (zgG h1 hpen).mono (Ret.mono ?_)
 rintro v w' (⟨q1, rfl, F', q2, q3, q4⟩ | ⟨q1, b, F', rfl, q2, q3, q4, q5⟩)
 ·exact .inl ⟨q1, rfl, Only.ext hx q4 h2⟩
 ·refine .inr ⟨q1, b, rfl, F', q2, fun k hk => ?_, Only.ext hx q5 h2⟩
  rcases q4 k hk with e | e
  ·exact h2 k e
  ·exact Nat.le_trans hx.size e
end V
/- Spaces of one's own, short: Commit, Open, Root, Format of nothing. -/
namespace V
open Go Go.Proofs Go.RowKit Crc
variable {w0 w w' : World} {b db : Nat} {S : Spa} {R H : List Nat} {M : Option (List Nat)}
end V
/- Contracts of the package space: Abort, Mark, Back, Done, Gen. -/
namespace V
open Go Go.Proofs Go.RowKit Crc
variable {w w' : World} {b db : Nat} {S : Spa} {F Fd : Nat -> Prop} {x : SLC} {hb hr nb nr : Nat} {m : MkL}
end V
/- Great spaces: contracts, short, by the blocks that they own. -/
namespace V
open Go Go.Proofs Go.RowKit Crc
variable {w w' : World} {b db : Nat} {S : Spa} {F : Nat -> Prop} {R H : List Nat} {M : Option (List Nat)}
theorem zgL (h : ya w b db S F) {n : Nat} (hn : n < 4294967296) : Calls Tryz.prog 88 #[.pointer (some ⟨b, 0, none⟩), .int .u32 (n : Int)] w (Ret (zfO w (S.get n))) := by
 obtain ⟨Fd, x, hb, hr, nb, nr, m, h⟩ := h
 exact vT h hn
def zmz (S S' : Spa) (p : Page) (R H : List Nat) (M : Option (List Nat)) (n : Nat) (e : Int) : Prop :=
 (e = 3 /\ n = 0 /\ S' = S /\ S.room p.2.1.length < (p.2.2.size : Int)) \/ (e = 9 /\ n = 0 /\ S' = S /\ S.zV <= S.sup.pages.length) \/ (e = 0 /\ vz S S' p n /\ Great S' (n :: R) H M /\ (∀ q ∈ S'.dev.pen, q ∈ S.dev.pen \/ q.1 = (n : Int)) /\ S.sup.pages.length < S.zV)
theorem zor {S : Spa} {p : Page} (h : (S.put p).2.2 = 0) : ∀ q ∈ (S.put p).1.dev.pen, q ∈ S.dev.pen \/ q.1 = ((S.put p).2.1 : Int) := by
 revert h
 unfold Spa.put
 split
 ·rename_i hq
  intro h
  exact absurd h hq
 ·split
  ·rename_i _ hq
   intro h
   exact absurd h hq
  ·split
   ·rename_i _ _ hq
    intro h
    exact absurd h hq
   ·intro _ q hq
    revert hq
    dsimp only
    unfold yj
    split
    ·exact fun hq => .inl hq
    ·unfold Dev.write
     split
     ·exact fun hq => .inl hq
     ·split
      ·exact fun hq => .inl hq
      ·intro hq
       rcases List.mem_append.1 hq with e | e
       ·exact .inl e
       ·rw [List.mem_singleton.1 e]
        exact .inr rfl
theorem zo6 (h : ya w b db S F) {p : Page} {A : Option Addr} {n c : Nat} (hg : Great S (p.2.1 ++ R) H M) (hpen : S.dev.pen.length <= 900000) (hs : Sli (zu .u32) w A n p.2.1) (hA : ∀ a, A = some a -> ¬ F a.block) (ht : 3 <= p.1.toNat) (hk : (p.2.1.length : Int) <= S.room 0 / 4) (hds : p.2.2.size <= 1000000000) :
  Calls Tryz.prog 24 #[.pointer (some ⟨b, 0, none⟩), .agg (pgV p (A, n, c)).toArray] w (Ret fun v w' => ∃ (S' : Spa) (k : Nat) (e : Int), v = .tuple #[.int .u32 (k : Int), .int .i64 e] /\ zmz S S' p R H M k e /\ yx w b db F S' w') := by
 obtain ⟨Fd, x, hb, hr, nb, nr, m, h'⟩ := h
 have hdim := hg.good.dims
 have hN := hdim.n
 have hsz := hdim.size
 have hroom := hdim.room
 have hku : ∀ k ∈ p.2.1, zI S.sup.pages S.now k = true := fun k hk => hg.good.well.root k (List.mem_append_left _ hk)
 have hr0 : S.room 0 = S.sup.size - 18 := by unfold Spa.room; rw [hroom, if_neg (by omega)]; omega
 refine (za9 h' hg.good.h01 (by have := hg.good.gen; omega) (by omega) p hs (fun k hk => by
  have := hg.good.well.lt (hku k hk)
  omega) hA hds).mono (Ret.mono ?_)
 rintro v w' ⟨rfl, hst⟩
 refine ⟨(S.put p).1, (S.put p).2.1, (S.put p).2.2, rfl, ?_, hst⟩
 have c1 : ¬ (p.1.toNat < 3 \/ p.2.1.length > 65535 \/ ∃ k ∈ p.2.1, S.asked k = false) := by
  rintro (e | e | ⟨k, hk, e⟩)
  ·omega
  ·omega
  ·rw [(qa hg.good (hku k hk)).1] at e; cases e
 have c2 : ¬ ∃ k ∈ p.2.1, S.now.getD k 0 = 0 := by
  rintro ⟨k, hk, e⟩
  exact (qa hg.good (hku k hk)).2.1 e
 by_cases hd : (p.2.2.size : Int) <= S.room p.2.1.length
 ·by_cases hf : S.sup.pages.length < S.zV
  ·obtain ⟨g1, g2, g3⟩ := zkm hg ht hk hd hf
   exact .inr (.inr ⟨g1, g2, g3, zor g1, hf⟩)
  ·have hE : S.jC p = 9 := by
    unfold Spa.jC
    rw [if_neg c1, if_neg c2, if_neg (by rintro (e | e) <;> omega), if_pos (by omega)]
   have hP : S.put p = (S, 0, 9) := by unfold Spa.put; rw [if_pos (by rw [hE]; decide), hE]
   rw [hP]
   exact .inr (.inl ⟨rfl, rfl, rfl, by omega⟩)
 ·have hE : S.jC p = 3 := by
   unfold Spa.jC
   rw [if_neg c1, if_neg c2, if_pos (.inr (by omega))]
  have hP : S.put p = (S, 0, 3) := by unfold Spa.put; rw [if_pos (by rw [hE]; decide), hE]
  rw [hP]
  exact .inl ⟨rfl, rfl, rfl, by omega⟩
theorem zos (h : ya w b db S F) {n : Nat} (hg : Great S (n :: R) H M) : Calls Tryz.prog 28 #[.pointer (some ⟨b, 0, none⟩), .int .u32 (n : Int)] w (Ret fun v w' => v = .int .i64 0 /\ ∃ c' : List Nat, Great { S with now := c' } R H M /\ yx w b db F { S with now := c' } w' /\ Drp S.asked S.page S.now [n] c' 0 /\ ∀ k, c'.getD k 0 <= S.now.getD k 0) := by
 obtain ⟨Fd, x, hb, hr, nb, nr, m, h'⟩ := h
 obtain ⟨c', d1, d2, d3, d4⟩ := zkl hg.good
 have hu := hg.good.well.root n (by simp)
 have hnN := hg.good.well.lt hu
 have hN := hg.good.dims.n
 refine (zec h' (n := n) (by omega) (c' := c') (e := 0) (fun _ => d1) (fun e => by rw [(qa hg.good hu).1] at e; cases e)).mono (Ret.mono ?_)
 rintro v w' ⟨rfl, hS, hO⟩
 exact ⟨rfl, c', hg.less d2 d4, ⟨F, hS.zeJ, fun k hk => .inl hk, hO⟩, d1, d4⟩
theorem zmA (h : ya w b db S F) {n : Nat} (hg : Great S R H M) (hu : zI S.sup.pages S.now n = true) (h6 : S.now.getD n 0 < 65535) :
  Calls Tryz.prog 90 #[.pointer (some ⟨b, 0, none⟩), .int .u32 (n : Int)] w (Ret fun v w' => v = .int .i64 0 /\ Great { S with now := S.now.set n (S.now.getD n 0 + 1) } (n :: R) H M /\ yx w b db F { S with now := S.now.set n (S.now.getD n 0 + 1) } w') := by
 obtain ⟨Fd, x, hb, hr, nb, nr, m, h'⟩ := h
 obtain ⟨s1, s2, s3⟩ := zjj hg.good hu h6
 have hnN := hg.good.well.lt hu
 have hN := hg.good.dims.n
 refine (zhF h' (n := n) (by omega)).mono (Ret.mono ?_)
 rintro v w' ⟨rfl, hS, hO⟩
 rw [s1]
 rw [s3] at s2 hS
 exact ⟨rfl, hg.more hu s2, F, hS.zeJ, fun k hk => .inl hk, hO⟩
end V
/- Contracts of the package tree: get, look, Check. -/
namespace V
open Go Go.Proofs Go.RowKit Crc
variable {w w' : World} {b db : Nat} {S : Spa} {F : Nat -> Prop}
theorem vX (h : ya w b db S F) {n : Nat} (hn : n < 4294967296) {p : Page} {d : Nd} (hg : S.get n = (p, 0)) (hd : qN p d) (hl : d.2.1.length <= 5000) :
  Calls Tryz.prog 166 #[.pointer (some ⟨b, 0, none⟩), .int .u32 (n : Int)] w (Ret fun v w' => ∃ x z y, v = .tuple #[.agg (ndV d.1 x z y).toArray, .int .i64 0] /\ zak w' w.heap.size d x z y /\ (∀ a, y.1 = some a -> w.heap.size <= a.block /\ a.block < w'.heap.size) /\ Ext w w') := by
 apply zlz
 unfold S166
 refine zr fun r1 w1 hb1 he1 hr1 hz1 => ?_
 refine zb (zgL (h.ext he1) hn) ?_
 rintro _ w2 ⟨y, rfl, ho, he2⟩
 rw [hg] at ho ⊢
 refine ⟨(pgT p y, 0, ()), rfl, ?_⟩
 refine yE (vs := pgV p y) (by rfl) (jS _ _) (fun r3 w3 hb3 he3 hr3 => ?_) (by rfl)
 refine zc (by rfl) ?_
 refine zW (ls := zeL) (pgT p y) hb3 (by rfl) ?_
 have hb1 := (hb1.ext he2).ext he3
 have he := (he1.trans he2).trans he3
 have hs1 := he1.size
 have hs2 := he2.size
 refine zb (zhN (y := y) hd (ho.sl.ext he3) hl) ?_
 rintro _ w4 ⟨x, z, rfl, hN, he4⟩
 refine ⟨(ndT d.1 x z y, 0, ()), rfl, ?_⟩
 have hs3 := he3.size
 have hs4 := he4.size
 refine refill (vs := ndV d.1 x z y) (hb1.ext he4) (by rfl) (qZ _ _ _ _) (by rfl) ?_
 intro w5 hb5 hx5 hk5 hz5
 have hlt := hb5.lt
 have he5 : Ext w w5 := hx5 w (he.trans he4) (by omega)
 have heo := he.trans he4
 have o5 : Only (fun k => k = r1) w4 w5 := ⟨he5.os.trans heo.os.symm, he5.tape.trans heo.tape.symm, he5.output.trans heo.output.symm, Nat.le_of_eq hz5.symm, fun k _ hk => hk5 k hk⟩
 refine zW (ls := qO) (ndT d.1 x z y) hb5 (by rfl) ?_
 refine ⟨x, z, y, rfl, ⟨(hN.ks.only o5 (fun j hj e => by have := hN.ks.row j hj; have : j = r1 := e; omega)).lower (by omega), (hN.vs.only o5 (fun j hj e => by have := hN.vs.row j hj; have : j = r1 := e; omega)).lower (by omega), ?_⟩, (fun a ha => by have := ho.row a.block (by rw [ha]; rfl); have := ho.yc a.block (by rw [ha]; rfl); omega), he5⟩
 refine hN.kids.only o5 (fun a ha e => ?_)
 have := ho.row a.block (by rw [ha]; rfl)
 have : a.block = r1 := e
 omega
theorem ql {t : UInt8} {x y z : SLC} : Calls Tryz.prog 167 #[.agg (ndV t x y z).toArray] w (Ret fun v w' => v = .bool ((t.toNat : Int) == 3) /\ Ext w w') := by
 apply zlA
 unfold S167
 refine zr fun r1 w1 hb1 he1 hr1 hz1 => ?_
 exact zE ((t.toNat : Nat) : Int) hb1 (by rfl) ⟨rfl, he1⟩
theorem zal {t : UInt8} {x y z : SLC} : Calls Tryz.prog 203 #[.agg (ndV t x y z).toArray] w (Ret fun v w' => v = .bool ((t.toNat : Int) != 4) /\ Ext w w') := by
 apply zlR
 unfold S203
 refine zr fun r1 w1 hb1 he1 hr1 hz1 => ?_
 exact zE ((t.toNat : Nat) : Int) hb1 (by rfl) ⟨rfl, he1⟩
def Nd.val (d : Nd) (i : Nat) : Nat := if d.1 = 4 then d.2.2.1.getD i 0 else d.2.2.2.getD i 0
theorem zgM {N : Nat} {d : Nd} {x y z : SLC} (h : zak w N d x y z) {i : Nat} (hi : i < if d.1 = 4 then y.2.1 else z.2.1) (h64 : d.val i < 18446744073709551616) : Calls Tryz.prog 168 #[.agg (ndV d.1 x y z).toArray, .int .i64 (i : Int)] w (Ret fun v w' => v = .int .u64 (d.val i : Int) /\ Ext w w') := by
 apply zlB
 unfold S168
 refine zr fun r1 w1 hb1 he1 hr1 hz1 => ?_
 have hb1 : Blk w1 r1 (ndV d.1 x y z) 215 := hb1
 refine zW (ls := qO) (ndT d.1 x y z) hb1 (by rfl) ?_
 refine zb zal ?_
 rintro _ w2 ⟨rfl, he2⟩
 refine ⟨_, rfl, ?_⟩
 have he := he1.trans he2
 have hb2 := hb1.ext he2
 unfold Nd.val at h64 ⊢
 by_cases hq : d.1 = 4
 ·rw [if_pos hq] at hi h64 ⊢
  refine zc (by rw [hq]; rfl) ?_
  refine zn 2 y hb2 (by rfl) ?_
  have hl := h.vs.sl.le
  refine zR (h.vs.sl.ext he) (by omega) (by omega) ?_
  rw [Int.toNat_natCast]
  exact ⟨rfl, he⟩
 ·rw [if_neg hq] at hi h64 ⊢
  refine zf (bne_iff_ne.2 (fun e => hq (UInt8.toNat_inj.1 (by show _ = 4; omega)))) ?_
  refine zn 3 z hb2 (by rfl) ?_
  have hl := h.kids.le
  refine zR (h.kids.ext he) (by omega) (by omega) ?_
  rw [Int.toNat_natCast, zy h64]
  exact ⟨rfl, he⟩
def shV (n lo hi : Nat) (t : UInt8) (tall : Nat) : List Value := [.int .i64 (n : Int), .int .u64 (lo : Int), .int .u64 (hi : Int), .int .u8 (t.toNat : Int), .int .i64 (tall : Int)]
abbrev zmB : List Lf := [.int .i64, .int .u64, .int .u64, .int .u8, .int .i64]
def shT (n lo hi : Nat) (t : UInt8) (tall : Nat) : Int × Int × Int × Int × Int × Unit := ((n : Int), (lo : Int), (hi : Int), (t.toNat : Int), (tall : Int), ())
theorem zaG (n lo hi : Nat) (t : UInt8) (tall : Nat) : ∀ v ∈ shV n lo hi t tall, v.oneCell' = true := by
 intro v hv
 simp only [shV, List.mem_cons, List.not_mem_nil, or_false] at hv
 rcases hv with rfl | rfl | rfl | rfl | rfl <;> rfl
theorem zfk (h : ya w b db S F) {n deep : Nat} (hn : n < 4294967296) {p : Page} {d : Nd} (hg : S.get n = (p, 0)) (hd : qN p d) (h3 : d.1 ≠ 3) (hl : d.2.1.length <= 5000) (hdeep : deep <= 16) {st : Bool} :
  Calls Tryz.prog 124 #[.pointer (some ⟨b, 0, none⟩), .int .u32 (n : Int), .int .i64 (deep : Int), .bool st] w (Ret fun v w' => v = .tuple #[.agg (shV d.2.1.length (d.2.1.getD 0 0) (d.2.1.getD (d.2.1.length - 1) 0) d.1 1).toArray, .int .i64 0] /\ Ext w w') := by
 have hne : 1 <= d.2.1.length := by
  cases hd with
  | refs ks kids h1 h2 h3 h4 => exact h2
  | inner ks kids h1 h2 h3 h4 => exact Nat.le_of_succ_le h2
  | leaf k v h1 h2 => exact Nat.le_refl _
 apply zgf
 unfold S124
 refine zr fun r1 w1 hb1 he1 hr1 hz1 => ?_
 refine zb (vX (h.ext he1) hn hg hd hl) ?_
 rintro _ w2 ⟨x, z, y, rfl, hN, _, he2⟩
 refine ⟨(ndT d.1 x z y, 0, ()), rfl, ?_⟩
 refine yE (vs := ndV d.1 x z y) (by rfl) (qZ _ _ _ _) (fun r3 w3 hb3 he3 hr3 => ?_) (by rfl)
 refine zc (by rfl) (zc (decide_eq_false (by omega)) ?_)
 refine zW (ls := qO) (ndT d.1 x z y) hb3 (by rfl) ?_
 refine zb ql ?_
 rintro _ w4 ⟨rfl, he4⟩
 refine ⟨_, rfl, ?_⟩
 refine zf (by rw [beq_eq_false_iff_ne.2 (fun e => h3 (UInt8.toNat_inj.1 (by show _ = 3; omega)))]; rfl) ?_
 refine zK fun w5 he5 hz5 hh5 => ?_
 have he25 := (he3.trans he4).trans he5
 have he := (he1.trans he2).trans he25
 have hb3 := (hb3.ext he4).ext he5
 have hk := hN.ks.sl.ext he25
 have hxl := hk.len
 have hxle := hk.le
 refine zn 1 x hb3 (by rfl) (zn 1 x hb3 (by rfl) ?_)
 refine zR hk (by omega) (by omega) ?_
 refine zn 1 x hb3 (by rfl) (zn 1 x hb3 (by rfl) ?_)
 rw [show IntKind.wrap .i64 ((x.2.1 : Int) - 1) = ((d.2.1.length - 1 : Nat) : Int) by rw [wrap_i64 (by omega) (by omega)]; omega]
 refine zR hk (by omega) (by omega) ?_
 rw [Int.toNat_natCast]
 refine zE ((d.1.toNat : Nat) : Int) hb3 (by rfl) ?_
 have hb1 := ((hb1.ext he2).ext he25)
 refine refill (vs := shV x.2.1 (d.2.1.getD 0 0) (d.2.1.getD (d.2.1.length - 1) 0) d.1 1) hb1 (by rfl) (zaG _ _ _ _ _) (by rfl) ?_
 intro w6 hb6 hx6 hk6 hz6
 refine zW (ls := zmB) (shT x.2.1 (d.2.1.getD 0 0) (d.2.1.getD (d.2.1.length - 1) 0) d.1 1) hb6 (by rfl) ?_
 exact ⟨by rw [<- hxl]; rfl, hx6 w he (by omega)⟩
theorem zmC (h : ya w b db S F) {n : Nat} (hn : n < 4294967296) {p : Page} {kn : Nat -> Nat} {kp : Nat -> Page} {kd : Nat -> Nd} {t : UInt8} (ht : t ≠ 3)
  (hg : S.get n = (p, 0)) (hd : qN p ((3 : UInt8), [(kd 0).2.1.getD 0 0, (kd 1).2.1.getD 0 0], [], [kn 0, kn 1]))
  (hk : ∀ i, i < 2 -> kn i < 4294967296 /\ S.get (kn i) = (kp i, 0) /\ qN (kp i) (kd i) /\ (kd i).1 = t /\ (kd i).2.1.length <= 5000)
  (hr : (kd 0).2.1.getD ((kd 0).2.1.length - 1) 0 < (kd 1).2.1.getD 0 0) {st : Bool} :
  Calls Tryz.prog 124 #[.pointer (some ⟨b, 0, none⟩), .int .u32 (n : Int), .int .i64 1, .bool st] w (Ret fun v w' => (∃ n lo hi t tl, v = .tuple #[.agg (shV n lo hi t tl).toArray, .int .i64 0]) /\ Ext w w') := by
 apply zgf
 unfold S124
 refine zr fun r1 w1 hb1 he1 hr1 hz1 => ?_
 refine zb (vX (h.ext he1) hn hg hd (by show 2 <= 5000; omega)) ?_
 rintro _ w2 ⟨x, z, y, rfl, hN, hyr, he2⟩
 refine ⟨(ndT 3 x z y, 0, ()), rfl, ?_⟩
 refine yE (vs := ndV 3 x z y) (by rfl) (qZ _ _ _ _) (fun r3 w3 hb3 he3 hr3 => ?_) (by rfl)
 refine zc (by rfl) (zc (by rfl) ?_)
 refine zW (ls := qO) (ndT 3 x z y) hb3 (by rfl) ?_
 refine zb ql ?_
 rintro _ w4 ⟨rfl, he4⟩
 refine ⟨_, rfl, zc (by rfl) ?_⟩
 have he34 := he3.trans he4
 have hb34 := hb3.ext he4
 refine zn 3 y hb34 (by rfl) ?_
 have hN3 : zak w4 w1.heap.size _ x z y := ⟨hN.ks.ext he34, hN.vs.ext he34, hN.kids.ext he34⟩
 have hyl : 2 = y.2.1 := hN3.kids.len
 have hxl : 2 = x.2.1 := hN3.ks.len
 have he04 := (he1.trans he2).trans he34
 have hb14 : Blk w4 r1 (shV 0 0 0 0 0) 197 := (hb1.ext he2).ext he34
 have hl1 := hb14.lt
 have hl3 := hb34.lt
 have hs2 := he2.size
 have hxr := hN3.ks.row
 -- the worlds of the rounds differ from w4 at r1 alone
 refine zx (fun t' w' => ∃ i : Nat, i <= 2 /\ t' = ((i : Int), ()) /\ Ext w w' /\ Only (fun k => k = r1) w4 w' /\ ∃ c lo hi, Blk w' r1 (if i = 0 then shV 0 0 0 0 0 else shV c lo hi t 2) 197 /\ (i = 1 -> hi = (kd 0).2.1.getD ((kd 0).2.1.length - 1) 0) /\ c <= 5000 * i) (fun t' => (2 - t'.1).toNat)
  ⟨0, by omega, rfl, he04, Only.refl _ _, 0, 0, 0, hb14, by simp, by omega⟩ ?_
 rintro _ w5 ⟨i, hi2, rfl, he5, o5, c, lo, hi, b5, hhi, hc⟩
 dsimp only
 have hb5 := hb34.only o5 (by omega)
 by_cases hlt : i < 2
 ·refine zf (decide_eq_true (by omega)) ?_
  refine yB (fun (_ : Unit) w' => Ext w w' /\ Only (fun k => k = r1) w4 w' /\ ∃ c lo hi, Blk w' r1 (shV c lo hi t 2) 197 /\ (i = 0 -> hi = (kd 0).2.1.getD ((kd 0).2.1.length - 1) 0) /\ c <= 5000 * (i + 1)) ?_ (fun J hJ => ?_)
  ·rintro _ w6 ⟨g1, g2, c', lo', hi', g3, g4, g5⟩
   exact ⟨⟨i + 1, by omega, by rw [wrap_i64 (by omega) (by omega)]; rfl, g1, g2, c', lo', hi', by rw [if_neg (by omega)]; exact g3, fun e => g4 (by omega), g5⟩, by rw [wrap_i64 (by omega) (by omega)]; omega⟩
  have hkid5 := hN3.kids.only o5 (fun a ha e => by have := (hyr a ha).1; have : a.block = r1 := e; omega)
  refine zR hkid5 (by omega) (by omega) ?_
  rw [Int.toNat_natCast]
  obtain ⟨k1, k2, k3, k4, k5⟩ := hk i hlt
  have ek : ([kn 0, kn 1] : List Nat).getD i 0 = kn i := by
   rcases (show i = 0 \/ i = 1 by omega) with rfl | rfl <;> rfl
  have ekk : ([(kd 0).2.1.getD 0 0, (kd 1).2.1.getD 0 0] : List Nat).getD i 0 = (kd i).2.1.getD 0 0 := by
   rcases (show i = 0 \/ i = 1 by omega) with rfl | rfl <;> rfl
  rw [show ([kn 0, kn 1] : List Nat).getD i 0 = kn i from ek]
  rw [show IntKind.wrap .i64 (1 + 1) = ((2 : Nat) : Int) by decide]
  refine zb (zfk (h.ext he5) k1 k2 k3 (by rw [k4]; exact ht) k5 (deep := 2) (by omega)) ?_
  rintro _ w6 ⟨rfl, he6⟩
  refine ⟨(shT (kd i).2.1.length ((kd i).2.1.getD 0 0) ((kd i).2.1.getD ((kd i).2.1.length - 1) 0) (kd i).1 1, 0, ()), rfl, ?_⟩
  refine yE (vs := shV (kd i).2.1.length ((kd i).2.1.getD 0 0) ((kd i).2.1.getD ((kd i).2.1.length - 1) 0) (kd i).1 1) (by rfl) (zaG _ _ _ _ _) (fun r28 w7 hb7 he7 hr7 => ?_) (by rfl)
  refine zc (by rfl) ?_
  rw [k4] at hb7
  have he57 := he6.trans he7
  have b7 := b5.ext he57
  have h37 := hb5.ext he57
  have hk7 := (hN3.ks.only o5 (fun j hj e => by have := hxr j hj; have : j = r1 := e; omega)).ext he57
  have hs5 := o5.2.2.2.1
  have hs6 := he6.size
  refine yB (fun (y' : Bool × Unit) w' => y' = (false, ()) /\ ∃ _ : w7.heap.size <= w'.heap.size, Ext w7 w') ?_ (fun J31 hJ31 => ?_)
  rotate_left
  ·refine zK fun w8 he8 hz8 hh8 => ?_
   have hb8 := hb7.ext he8
   have b8 := b7.ext he8
   refine zn 1 (((kd i).2.1.getD 0 0 : Nat) : Int) hb8 (by rfl) ?_
   refine zn 1 x (h37.ext he8) (by rfl) ?_
   refine zR (hk7.sl.ext he8) (by omega) (by omega) ?_
   rw [Int.toNat_natCast, ekk]
   refine zc (by simp) ?_
   have hfin := hJ31 (false, ()) w8 ⟨rfl, by omega, he8⟩
   by_cases h0 : i = 0
   ·exact zc (decide_eq_false (by omega)) hfin
   ·obtain rfl : i = 1 := by omega
    refine zf (by rfl) ?_
    have b8 : Blk w8 r1 (shV c lo hi t 2) 197 := b8
    refine zn 2 ((hi : Nat) : Int) b8 (by rfl) ?_
    refine zn 1 (((kd 1).2.1.getD 0 0 : Nat) : Int) hb8 (by rfl) ?_
    refine zc (decide_eq_false (by rw [hhi rfl]; omega)) ?_
    refine zn 3 ((t.toNat : Nat) : Int) b8 (by rfl) ?_
    refine zn 3 ((t.toNat : Nat) : Int) hb8 (by rfl) ?_
    refine zc (by simp) ?_
    refine zn 4 ((2 : Nat) : Int) b8 (by rfl) ?_
    refine zn 4 ((1 : Nat) : Int) hb8 (by rfl) ?_
    exact hfin
  ·rintro _ w8 ⟨rfl, hs8, he8⟩
   refine yB (fun (_ : Unit) w' => w' = w8) ?_ (fun J43 hJ43 => by
    refine zg (fun _ => zc (by rfl) (hJ43 _ _ rfl)) (fun _ => hJ43 _ _ rfl))
   rintro _ w9 rfl
   have hb9 := hb7.ext he8
   have b9 := b7.ext he8
   have hl9 := b9.lt
   refine yB (fun (_ : Unit) w' => Only (fun k => k = r1) w9 w' /\ ∃ lo', Blk w' r1 (if i = 0 then shV 0 lo' 0 0 0 else shV c lo' hi t 2) 197) ?_ (fun J47 hJ47 => ?_)
   rotate_left
   ·refine zg (fun hq => ?_) (fun hq => hJ47 _ _ ⟨Only.refl _ _, lo, ?_⟩)
    ·have hq : (i : Int) = 0 := beq_iff_eq.1 hq
     obtain rfl : i = 0 := by omega
     refine zn 1 (((kd 0).2.1.getD 0 0 : Nat) : Int) hb9 (by rfl) ?_
     refine stE (o := 1) b9 (by rw [zz]) (by show 1 < 5; omega) ?_
     intro w10 b10 o10
     exact hJ47 _ _ ⟨o10, _, b10⟩
    ·have hq : ¬ (i : Int) = 0 := beq_eq_false_iff_ne.1 hq
     rw [if_neg (by omega)] at b9 ⊢
     exact b9
   rintro _ w10 ⟨o10, lo', b10⟩
   have hl28 := hb9.lt
   have hb10 := hb9.only o10 (by omega)
   have e0 : ∃ c0 lo0 hi0 t0 tl0, c0 <= 5000 * i /\ Blk w10 r1 (shV c0 lo0 hi0 t0 tl0) 197 := by
    split at b10
    ·exact ⟨_, _, _, _, _, by omega, b10⟩
    ·exact ⟨_, _, _, _, _, hc, b10⟩
   obtain ⟨c0, lo0, hi0, t0, tl0, hc0, b10⟩ := e0
   refine zE ((c0 : Nat) : Int) b10 (by rfl) ?_
   refine zE (((kd i).2.1.length : Nat) : Int) hb10 (by rfl) ?_
   refine zn 1 ((lo0 : Nat) : Int) b10 (by rfl) ?_
   refine zn 2 (((kd i).2.1.getD ((kd i).2.1.length - 1) 0 : Nat) : Int) hb10 (by rfl) ?_
   refine zn 3 ((t.toNat : Nat) : Int) hb10 (by rfl) ?_
   refine zn 4 ((1 : Nat) : Int) hb10 (by rfl) ?_
   rw [show IntKind.wrap .i64 ((c0 : Int) + ((kd i).2.1.length : Int)) = ((c0 + (kd i).2.1.length : Nat) : Int) by rw [wrap_i64 (by omega) (by omega)]; rfl, show IntKind.wrap .i64 (((1 : Nat) : Int) + 1) = ((2 : Nat) : Int) by decide]
   refine zoq (o := 0) (vs := shV (c0 + (kd i).2.1.length) lo0 ((kd i).2.1.getD ((kd i).2.1.length - 1) 0) t 2) b10 (by rfl) (by show 0 + 5 <= 5; omega) (zaG _ _ _ _ _) (by rfl) ?_
   intro w11 b11 o11
   have b11 : Blk w11 r1 (shV (c0 + (kd i).2.1.length) lo0 ((kd i).2.1.getD ((kd i).2.1.length - 1) 0) t 2) 197 := b11
   have oo : Only (fun k => k = r1) w5 w11 := Only.trans (Only.trans (Only.zG (he57.trans he8)) o10 (fun j hj => .inl hj)) o11 (fun j hj => .inl hj)
   refine hJ _ _ ⟨Only.ext he5 oo (fun j hj => by have : j = r1 := hj; omega), Only.trans o5 oo (fun j hj => .inl hj), _, _, _, b11, fun e => by subst e; rfl, by omega⟩
 ·obtain rfl : i = 2 := by omega
  refine zc (decide_eq_false (by omega)) ?_
  have b5 : Blk w5 r1 (shV c lo hi t 2) 197 := b5
  refine zW (ls := zmB) (shT c lo hi t 2) b5 (by rfl) ?_
  refine refill (vs := shV c lo hi t 2) b5 (by rfl) (zaG _ _ _ _ _) (by rfl) ?_
  intro w6 hb6 hx6 hk6 hz6
  refine zW (ls := zmB) (shT c lo hi t 2) hb6 (by rfl) ?_
  exact ⟨⟨_, _, _, _, _, rfl⟩, hx6 w he5 (by omega)⟩
end V
/- Contracts of the package tree: Check, walk, Each. -/
namespace V
open Go Go.Proofs Go.RowKit Crc
variable {w w' : World} {b db : Nat} {S : Spa} {F : Nat -> Prop} {R : List Nat}
theorem Owni.cong {α : Type} {E : Enc α} {e : TypeId} {w w' : World} {B : Nat} {A : Option Addr} {n c : Nat} {xs : List α} (h : Owni E e w B A n c xs) (hs : ∀ j, orow A = some j -> w'.heap[j]? = w.heap[j]?) : Owni E e w' B A n c xs := by
 refine ⟨h.1, ?_⟩
 rcases h.2 with hn | ⟨g, cap, cur, hv, hb, hgg, rest⟩
 ·exact .inl hn
 ·have hA : orow A = some g := by
   injection hv with hv
   rw [hv]; rfl
  exact .inr ⟨g, cap, cur, hv, hb, (hs g hA).trans hgg, rest⟩
theorem jj.get {n : Nat} {ks vs : List Nat} (h : jj S n ks vs) (hg : Good S R) (hu : zI S.sup.pages S.now n = true) : S.get n = (((5 : UInt8), vs, mkB (k8B ks)), 0) /\ qN ((5 : UInt8), vs, mkB (k8B ks)) ((5 : UInt8), ks, [], vs) /\ n < 4294967296 := by
 have h1 := h.ok
 rw [h.1] at h1
 refine ⟨(hg.get hu).1.trans h.1, h1, ?_⟩
 have := hg.well.lt hu
 have := hg.dims.n
 omega
theorem getD_take {l : List Nat} {m i : Nat} (h : i < m) : (l.take m).getD i 0 = l.getD i 0 := by
 rw [List.getD_eq_getElem?_getD, List.getElem?_take, if_pos h, <- List.getD_eq_getElem?_getD]
theorem vI {l : List Nat} {m i : Nat} : (l.drop m).getD i 0 = l.getD (m + i) 0 := by
 rw [List.getD_eq_getElem?_getD, List.getElem?_drop, <- List.getD_eq_getElem?_getD]
def kdT (ks vs : List Nat) (m : Nat) (i : Nat) : Nd := if i = 0 then ((5 : UInt8), ks.take m, [], vs.take m) else ((5 : UInt8), ks.drop m, [], vs.drop m)
theorem zgN (h : ya w b db S F) (hg : Good S R) {n : Nat} {ks vs : List Nat} (ht : kU S n ks vs) (hu : zI S.sup.pages S.now n = true) (hl : ks.length <= 5000) :
  Calls Tryz.prog 79 #[.pointer (some ⟨b, 0, none⟩), .int .u32 (n : Int)] w (Ret fun v w' => v = .int .i64 0 /\ Ext w w') := by
 have hn2 := (zN.1 hu).1
 have hn32 : n < 4294967296 := by
  have := hg.well.lt hu
  have := hg.dims.n
  omega
 have hlook : Calls Tryz.prog 124 #[.pointer (some ⟨b, 0, none⟩), .int .u32 (n : Int), .int .i64 1, .bool true] w (Ret fun v w' => (∃ n lo hi t tl, v = .tuple #[.agg (shV n lo hi t tl).toArray, .int .i64 0]) /\ Ext w w') := by
  cases ht with
  | one hA =>
   obtain ⟨g1, g2, g3⟩ := hA.get hg hu
   refine (zfk h hn32 g1 g2 (by show (5 : UInt8) ≠ 3; decide) hl (deep := 1) (by omega)).mono (Ret.mono ?_)
   rintro v w' ⟨rfl, he⟩
   exact ⟨⟨_, _, _, _, _, rfl⟩, he⟩
  | two m a c h1 h2 h3 h4 h5 h6 h7 h8 =>
   have hkid : yp S.page n = [a, c] := by unfold yp; rw [h6]
   have hua := ((hg.well.good n hu).2 a (by rw [hkid]; simp))
   have huc := ((hg.well.good n hu).2 c (by rw [hkid]; simp))
   obtain ⟨a1, a2, a3⟩ := h7.get hg hua
   obtain ⟨c1, c2, c3⟩ := h8.get hg huc
   have e0 : (ks.take m).getD 0 0 = ks.getD 0 0 := getD_take (by omega)
   have e1 : (ks.drop m).getD 0 0 = ks.getD m 0 := vI
   have htl : (ks.take m).length = m := by rw [List.length_take]; omega
   have hdl : (ks.drop m).length = ks.length - m := List.length_drop
   have hin : qN (S.page n).1 ((3 : UInt8), [ks.getD 0 0, ks.getD m 0], [], [a, c]) := by
    rw [h6]
    refine qN.inner _ _ rfl (by simp) ?_ ?_
    ·have := zcg h4 (m - 1) 0 (by omega)
     rw [show 0 + (m - 1) + 1 = m by omega] at this
     show (decide (ks.getD 0 0 < ks.getD m 0) && true) = true
     rw [decide_eq_true this]; rfl
    ·intro q hq
     simp only [List.mem_cons, List.not_mem_nil, or_false] at hq
     have hm : ∀ i, i < ks.length -> ks.getD i 0 < 18446744073709551616 := fun i hi => by
      rw [List.getD_eq_getElem?_getD, List.getElem?_eq_getElem hi]
      exact h5 _ (List.getElem_mem _)
     rcases hq with rfl | rfl
     ·exact hm _ (by omega)
     ·exact hm _ h2
   refine zmC (t := 5) (kn := fun i => if i = 0 then a else c) (kd := kdT ks vs m) (kp := fun i => if i = 0 then ((5 : UInt8), vs.take m, mkB (k8B (ks.take m))) else ((5 : UInt8), vs.drop m, mkB (k8B (ks.drop m)))) h hn32 (by decide) ((hg.get hu).1.trans (Prod.ext rfl (hg.get hu).2)) (p := (S.page n).1) ?_ (fun i hi => ?_) ?_
   ·show qN _ ((3 : UInt8), [(ks.take m).getD 0 0, (ks.drop m).getD 0 0], [], [a, c])
    rw [e0, e1]
    exact hin
   ·rcases (show i = 0 \/ i = 1 by omega) with rfl | rfl
    ·exact ⟨a3, a1, a2, rfl, by show (ks.take m).length <= 5000; omega⟩
    ·exact ⟨c3, c1, c2, rfl, by show (ks.drop m).length <= 5000; omega⟩
   ·show (ks.take m).getD ((ks.take m).length - 1) 0 < (ks.drop m).getD 0 0
    rw [htl, e1, getD_take (by omega)]
    have := qE.1 h4 (m - 1) (by omega)
    rw [show m - 1 + 1 = m by omega] at this
    exact this
 apply znW
 unfold S79
 refine zc (by rfl) (zc (beq_eq_false_iff_ne.2 (by omega)) ?_)
 refine zb hlook ?_
 rintro _ w1 ⟨⟨n', lo, hi, t, tl, rfl⟩, he1⟩
 refine ⟨(shT n' lo hi t tl, 0, ()), rfl, ?_⟩
 refine yE (vs := shV n' lo hi t tl) (by rfl) (zaG _ _ _ _ _) (fun r2 w2 hb2 he2 hr2 => ?_) (by rfl)
 exact ⟨rfl, he1.trans he2⟩
def Yld (P : Program) (l : Nat) (L : List (List Value)) (R : WP) (J : (Nat -> Prop) -> Nat -> WP) (E : (Nat -> Prop) -> WP) : Prop :=
 ∀ (V : Nat -> Prop) i w' (h : i < L.length), J V i w' -> (∀ k, V k -> k < w'.heap.size) -> jk P l L[i] w' fun v w'' => w'.heap.size <= w''.heap.size /\ (∀ k, V k -> w''.heap[k]? = w'.heap[k]?) /\ ((v = .bool true /\ R w'' /\ J V (i + 1) w'') \/ (v = .bool false /\ E V w''))
def Stay (R : WP) (J : (Nat -> Prop) -> Nat -> WP) : Prop := ∀ (V V' : Nat -> Prop) i w' w'', J V i w' -> Only V w' w'' -> (∀ k, V' k -> V k \/ w'.heap.size <= k) -> R w'' -> J V' i w''
def zch (k v : Nat) : List Value := [.int .u64 (k : Int), .int .u64 (v : Int)]
def zcA (w : World) (V : Nat -> Prop) (J : (Nat -> Prop) -> Nat -> WP) (E : (Nat -> Prop) -> WP) (i : Nat) (v : Value) (w' : World) : Prop :=
 ∃ V' : Nat -> Prop, (∀ k, V' k -> V k \/ w.heap.size <= k) /\ (∀ k, V k -> V' k) /\ (∀ k, V' k -> k < w'.heap.size) /\ (∀ k, V k -> w'.heap[k]? = w.heap[k]?) /\ w.heap.size <= w'.heap.size /\ ((v = .bool true /\ J V' i w') \/ (v = .bool false /\ E V' w'))
theorem zpq {l : Nat} {L : List (List Value)} {R : WP} {J : (Nat -> Prop) -> Nat -> WP} {E : (Nat -> Prop) -> WP} (hY : Yld Tryz.prog l L R J E) {V : Nat -> Prop} {i k v : Nat} {w2 : World} {K : Bool -> WP} (hJ : J V i w2) (hV : ∀ q, V q -> q < w2.heap.size) (hL : L[i]? = some (zch k v))
  (hK1 : ∀ w3, w2.heap.size <= w3.heap.size -> (∀ k, V k -> w3.heap[k]? = w2.heap[k]?) -> R w3 -> J V (i + 1) w3 -> K true w3) (hK2 : ∀ w3, w2.heap.size <= w3.heap.size -> (∀ k, V k -> w3.heap[k]? = w2.heap[k]?) -> E V w3 -> K false w3) :
  yy Tryz.prog (.func (.yield l) #[] #[]) [.int .u64 (k : Int), .int .u64 (v : Int)] (.one (.one .bool)) K w2 := by
 obtain ⟨hi, hL⟩ := List.getElem?_eq_some_iff.1 hL
 refine .inr ⟨l, rfl, ?_⟩
 have hy := hY V i w2 hi hJ hV
 rw [hL] at hy
 obtain ⟨fn, tmps, asg, bd, hy1, hy2⟩ := hy
 refine ⟨fn, tmps, asg, bd, hy1, RoundIn.mono hy2 ?_⟩
 rintro (v | cc | _) w6 hvv
 ·obtain ⟨a1, a2, ⟨rfl, a3, a4⟩ | ⟨rfl, a3⟩⟩ := hvv
  ·exact ⟨true, rfl, hK1 w6 a1 a2 a3 a4⟩
  ·exact ⟨false, rfl, hK2 w6 a1 a2 a3⟩
 ·exact hvv
 ·exact hvv
theorem zfl {l : Nat} {L : List (List Value)} {J : (Nat -> Prop) -> Nat -> WP} {E : (Nat -> Prop) -> WP} {V : Nat -> Prop} (hY : Yld Tryz.prog l L (fun w => ya w b db S F) J E) (hS : Stay (fun w => ya w b db S F) J) (hR : ∀ V i w', J V i w' -> ya w' b db S F)
  {n deep i0 : Nat} (hn : n < 4294967296) {p : Page} {d : Nd} (hg : S.get n = (p, 0)) (hd : qN p d) (h3 : d.1 ≠ 3) (hl : d.2.1.length <= 5000) (hv : ∀ i, d.val i < 18446744073709551616) (hdeep : deep <= 16)
  (hL : ∀ j, j < d.2.1.length -> L[i0 + j]? = some (zch (d.2.1.getD j 0) (d.val j))) (hJ : J V i0 w) (hV : ∀ k, V k -> k < w.heap.size) :
  Calls Tryz.prog 126 #[.pointer (some ⟨b, 0, none⟩), .int .u32 (n : Int), .int .u64 0, .int .i64 (deep : Int), .func (.yield l) #[] #[]] w (Ret (zcA w V J E (i0 + d.2.1.length))) := by
 have h := hR _ _ _ hJ
 apply zgg
 unfold S126
 refine zb (vX h hn hg hd hl) ?_
 rintro _ w1 ⟨x, z, y, rfl, hN, hyr, he1⟩
 refine ⟨(ndT d.1 x z y, 0, ()), rfl, ?_⟩
 refine yE (vs := ndV d.1 x z y) (by rfl) (qZ _ _ _ _) (fun r2 w2 hb2 he2 hr2 => ?_) (by rfl)
 refine zc (by rfl) (zc (decide_eq_false (by omega)) ?_)
 refine zn 1 x hb2 (by rfl) ?_
 have he := he1.trans he2
 have hs1 := he1.size
 have hs2 := he2.size
 have hl2 := hb2.lt
 have hN2 : zak w2 w.heap.size d x z y := ⟨hN.ks.ext he2, hN.vs.ext he2, hN.kids.ext he2⟩
 have hxl := hN2.ks.len
 have hxle := hN2.ks.sl.le
 have hlen : ∀ i, i < d.2.1.length -> i < if d.1 = 4 then z.2.1 else y.2.1 := fun i hi => by
  have a1 := hN2.vs.len
  have a2 := hN2.kids.len
  cases hd with
  | refs ks kids h1 h2 h3 h4 => rw [if_neg (show ¬ (5 : UInt8) = 4 by decide)]; dsimp only at a2 hi; omega
  | inner ks kids h1 h2 h3 h4 => exact absurd rfl h3
  | leaf k v h1 h2 => rw [if_pos rfl]; dsimp only at a1 hi; rw [<- a1]; exact hi
 let V1 : Nat -> Prop := fun q => V q \/ (w.heap.size <= q /\ q < w2.heap.size)
 have hV1 : ∀ q, V1 q -> q < w2.heap.size := fun q hq => by
  rcases hq with e | e
  ·have := hV q e; omega
  ·exact e.2
 have hVn : ∀ q, V1 q -> V q \/ w.heap.size <= q := fun q hq => hq.imp id (fun e => e.1)
 have hJ2 : J V1 i0 w2 := hS _ _ _ _ _ hJ (Only.zG he) hVn (h.ext he)
 refine zx (fun t w' => ∃ i : Nat, i <= d.2.1.length /\ t = ((i : Int), ()) /\ J V1 (i0 + i) w' /\ (∀ q, V1 q -> w'.heap[q]? = w2.heap[q]?) /\ w2.heap.size <= w'.heap.size) (fun t => (d.2.1.length - t.1).toNat) ⟨0, by omega, rfl, hJ2, fun _ _ => rfl, Nat.le_refl _⟩ ?_
 rintro _ w3 ⟨i, hi, rfl, hJ3, hkp, hs3⟩
 dsimp only
 have fin : ∀ {w4 : World} {r : Bool}, w3.heap.size <= w4.heap.size -> (∀ q, V1 q -> w4.heap[q]? = w2.heap[q]?) -> ((r = true /\ J V1 (i0 + d.2.1.length) w4) \/ (r = false /\ E V1 w4)) -> zcA w V J E (i0 + d.2.1.length) (.bool r) w4 := by
  intro w4 r a1 a2 a3
  refine ⟨V1, hVn, fun k hk => .inl hk, fun k hk => by have := hV1 k hk; omega, fun k hk => (a2 k (.inl hk)).trans (he.block k (hV k hk)), by omega, ?_⟩
  rcases a3 with ⟨rfl, a3⟩ | ⟨rfl, a3⟩
  ·exact .inl ⟨rfl, a3⟩
  ·exact .inr ⟨rfl, a3⟩
 by_cases hlt : i < d.2.1.length
 ·refine zf (decide_eq_true (by omega)) ?_
  have hb3 : Blk w3 r2 (ndV d.1 x z y) 215 := (hkp r2 (.inr ⟨by omega, hl2⟩)).trans hb2
  have hin : ∀ q, w.heap.size <= q -> q < w2.heap.size -> w3.heap[q]? = w2.heap[q]? := fun q h1 h2 => hkp q (.inr ⟨h1, h2⟩)
  have hk3 : Sli (zu .u64) w3 x.1 x.2.1 d.2.1 := hN2.ks.sl.congr (fun a ha => hin _ (hN2.ks.row _ (by rw [ha]; rfl)) (hN2.ks.yc _ (by rw [ha]; rfl)))
  refine zW (ls := qO) (ndT d.1 x z y) hb3 (by rfl) ?_
  refine zb ql ?_
  rintro _ w4 ⟨rfl, he4⟩
  refine ⟨_, rfl, ?_⟩
  refine zf (by rw [beq_eq_false_iff_ne.2 (fun e => h3 (UInt8.toNat_inj.1 (by show _ = 3; omega)))]; rfl) ?_
  refine zK fun w5 he5 hz5 hh5 => ?_
  have he35 := he4.trans he5
  have hb5 := hb3.ext he35
  have hk5 := hk3.ext he35
  refine zn 1 x hb5 (by rfl) ?_
  refine zR hk5 (by omega) (by omega) ?_
  refine zf (decide_eq_true (by omega)) ?_
  refine zn 1 x hb5 (by rfl) ?_
  refine zJ ⟨by omega, by omega⟩ ?_
  have ek : d.2.1[i]? = some (d.2.1.getD i 0) := by rw [List.getD_eq_getElem?_getD, List.getElem?_eq_getElem hlt]; rfl
  obtain ⟨a, ha, hsp, hcell⟩ := hk5.at_ ek
  refine ⟨a, ha, ?_⟩
  rw [Int.toNat_natCast]
  have hc0 : w5.cell? (a.add (i * 1)) = some (.int .u64 ((d.2.1.getD i 0 : Nat) : Int)) := by
   have := hcell.1
   rw [add_zero] at this
   exact this
  refine zaT (l := .int .u64) (x := ((d.2.1.getD i 0 : Nat) : Int)) (by exact hc0) ?_
  refine zW (ls := qO) (ndT d.1 x z y) hb5 (by rfl) ?_
  have hN5 : zak w5 w.heap.size d x z y := by
   refine ⟨(hN2.ks.cong (fun j hj => hin _ (hN2.ks.row _ hj) (hN2.ks.yc _ hj))).ext he35, (hN2.vs.cong (fun j hj => hin _ (hN2.vs.row _ hj) (hN2.vs.yc _ hj))).ext he35, (hN2.kids.congr (fun a ha => ?_)).ext he35⟩
   have := hyr a ha
   exact hin _ this.1 (by omega)
  refine zb (zgM hN5 (hlen i hlt) (hv i)) ?_
  rintro _ w6 ⟨rfl, he6⟩
  refine ⟨_, rfl, ?_⟩
  have he36 := he35.trans he6
  have hs6 := he36.size
  refine jo (fun p hp => by rw [List.mem_singleton.1 hp]; exact he6.cell hc0) (yK (hb5.ext he6) rfl) ?_
  have hJ6 : J V1 (i0 + i) w6 := hS _ _ _ _ _ hJ3 (Only.zG he36) (fun k hk => .inl hk) ((hR _ _ _ hJ3).ext he36)
  have hkp6 : ∀ q, V1 q -> w6.heap[q]? = w2.heap[q]? := fun q hq => (he36.block q (by have := hV1 q hq; omega)).trans (hkp q hq)
  refine zpq hY hJ6 (fun q hq => by have := hV1 q hq; omega) (hL i hlt) (fun w7 a1 a2 a3 a4 => ?_) (fun w7 a1 a2 a3 => ?_)
  ·refine zc (by rfl) ?_
   exact ⟨⟨i + 1, by omega, by rw [wrap_i64 (by omega) (by omega)]; rfl, a4, fun q hq => (a2 q hq).trans (hkp6 q hq), by omega⟩, by rw [wrap_i64 (by omega) (by omega)]; omega⟩
  ·refine zf (by rfl) ?_
   exact fin (by omega) (fun q hq => (a2 q hq).trans (hkp6 q hq)) (.inr ⟨rfl, a3⟩)
 ·obtain rfl : i = d.2.1.length := by omega
  refine zc (decide_eq_false (by omega)) ?_
  exact fin (Nat.le_refl _) hkp (.inl ⟨rfl, hJ3⟩)
theorem zmD {l : Nat} {L : List (List Value)} {J : (Nat -> Prop) -> Nat -> WP} {E : (Nat -> Prop) -> WP} {V : Nat -> Prop} (hY : Yld Tryz.prog l L (fun w => ya w b db S F) J E) (hS : Stay (fun w => ya w b db S F) J) (hR : ∀ V i w', J V i w' -> ya w' b db S F)
  {n : Nat} (hn : n < 4294967296) {p : Page} {kn : Nat -> Nat} {kp : Nat -> Page} {kd : Nat -> Nd} {t : UInt8} (ht : t ≠ 3)
  (hg : S.get n = (p, 0)) (hd : qN p ((3 : UInt8), [(kd 0).2.1.getD 0 0, (kd 1).2.1.getD 0 0], [], [kn 0, kn 1]))
  (hk : ∀ i, i < 2 -> kn i < 4294967296 /\ S.get (kn i) = (kp i, 0) /\ qN (kp i) (kd i) /\ (kd i).1 = t /\ (kd i).2.1.length <= 5000 /\ ∀ j, (kd i).val j < 18446744073709551616)
  (hr : 0 < (kd 1).2.1.getD 0 0)
  (hL : ∀ i j, i < 2 -> j < (kd i).2.1.length -> L[(if i = 0 then 0 else (kd 0).2.1.length) + j]? = some (zch ((kd i).2.1.getD j 0) ((kd i).val j))) (hJ : J V 0 w) (hV : ∀ k, V k -> k < w.heap.size) :
  Calls Tryz.prog 126 #[.pointer (some ⟨b, 0, none⟩), .int .u32 (n : Int), .int .u64 0, .int .i64 1, .func (.yield l) #[] #[]] w (Ret (zcA w V J E ((kd 0).2.1.length + (kd 1).2.1.length))) := by
 have h := hR _ _ _ hJ
 apply zgg
 unfold S126
 refine zb (vX h hn hg hd (by show 2 <= 5000; omega)) ?_
 rintro _ w1 ⟨x, z, y, rfl, hN, hyr, he1⟩
 refine ⟨(ndT 3 x z y, 0, ()), rfl, ?_⟩
 refine yE (vs := ndV 3 x z y) (by rfl) (qZ _ _ _ _) (fun r2 w2 hb2 he2 hr2 => ?_) (by rfl)
 refine zc (by rfl) (zc (by rfl) ?_)
 refine zn 1 x hb2 (by rfl) ?_
 have he := he1.trans he2
 have hs1 := he1.size
 have hs2 := he2.size
 have hl2 := hb2.lt
 have hN2 : zak w2 w.heap.size _ x z y := ⟨hN.ks.ext he2, hN.vs.ext he2, hN.kids.ext he2⟩
 have hyl : 2 = y.2.1 := hN2.kids.len
 have hxl : 2 = x.2.1 := hN2.ks.len
 let V1 : Nat -> Prop := fun q => V q \/ (w.heap.size <= q /\ q < w2.heap.size)
 have hV1 : ∀ q, V1 q -> q < w2.heap.size := fun q hq => by
  rcases hq with e | e
  ·have := hV q e; omega
  ·exact e.2
 have hVn : ∀ q, V1 q -> V q \/ w.heap.size <= q := fun q hq => hq.imp id (fun e => e.1)
 have hJ2 : J V1 0 w2 := hS _ _ _ _ _ hJ (Only.zG he) hVn (h.ext he)
 let at_ : Nat -> Nat := fun i => if i = 0 then 0 else if i = 1 then (kd 0).2.1.length else (kd 0).2.1.length + (kd 1).2.1.length
 refine zx (fun t w' => ∃ (i : Nat) (Vi : Nat -> Prop), i <= 2 /\ t = ((i : Int), ()) /\ J Vi (at_ i) w' /\ (∀ q, V1 q -> Vi q) /\ (∀ q, Vi q -> V1 q \/ w2.heap.size <= q) /\ (∀ q, Vi q -> q < w'.heap.size) /\ (∀ q, V1 q -> w'.heap[q]? = w2.heap[q]?) /\ w2.heap.size <= w'.heap.size) (fun t => (2 - t.1).toNat) ⟨0, V1, by omega, rfl, hJ2, fun _ h => h, fun _ h => .inl h, hV1, fun _ _ => rfl, Nat.le_refl _⟩ ?_
 rintro _ w3 ⟨i, Vi, hi, rfl, hJ3, hv1, hv2, hv3, hkp, hs3⟩
 dsimp only
 have fin : ∀ {w4 : World} {r : Bool} {Vj : Nat -> Prop}, w3.heap.size <= w4.heap.size -> (∀ q, V1 q -> Vj q) -> (∀ q, Vj q -> V1 q \/ w2.heap.size <= q) -> (∀ q, Vj q -> q < w4.heap.size) -> (∀ q, V1 q -> w4.heap[q]? = w2.heap[q]?) -> ((r = true /\ J Vj ((kd 0).2.1.length + (kd 1).2.1.length) w4) \/ (r = false /\ E Vj w4)) -> zcA w V J E ((kd 0).2.1.length + (kd 1).2.1.length) (.bool r) w4 := by
  intro w4 r Vj a1 b1 b2 b3 a2 a3
  refine ⟨Vj, fun k hk => ?_, fun k hk => b1 k (.inl hk), b3, fun k hk => (a2 k (.inl hk)).trans (he.block k (hV k hk)), by omega, ?_⟩
  ·rcases b2 k hk with e | e
   ·exact hVn k e
   ·exact .inr (by omega)
  ·rcases a3 with ⟨rfl, a3⟩ | ⟨rfl, a3⟩
   ·exact .inl ⟨rfl, a3⟩
   ·exact .inr ⟨rfl, a3⟩
 by_cases hlt : i < 2
 ·refine zf (decide_eq_true (by omega)) ?_
  have hb3 : Blk w3 r2 (ndV 3 x z y) 215 := (hkp r2 (.inr ⟨by omega, hl2⟩)).trans hb2
  have hin : ∀ q, w.heap.size <= q -> q < w2.heap.size -> w3.heap[q]? = w2.heap[q]? := fun q h1 h2 => hkp q (.inr ⟨h1, h2⟩)
  have hk3 := hN2.ks.sl.congr (w' := w3) (fun a ha => hin _ (hN2.ks.row _ (by rw [ha]; rfl)) (hN2.ks.yc _ (by rw [ha]; rfl)))
  have hy3 := hN2.kids.congr (w' := w3) (fun a ha => hin _ (hyr a ha).1 (by have := (hyr a ha).2; omega))
  refine zW (ls := qO) (ndT 3 x z y) hb3 (by rfl) ?_
  refine zb ql ?_
  rintro _ w4 ⟨rfl, he4⟩
  refine ⟨_, rfl, ?_⟩
  refine zc (by rfl) ?_
  have hb4 := hb3.ext he4
  have hs4 := he4.size
  have hJ4 : J Vi (at_ i) w4 := hS _ _ _ _ _ hJ3 (Only.zG he4) (fun k hk => .inl hk) ((hR _ _ _ hJ3).ext he4)
  have hkp4 : ∀ q, V1 q -> w4.heap[q]? = w2.heap[q]? := fun q hq => (he4.block q (by have := hV1 q hq; omega)).trans (hkp q hq)
  obtain ⟨k1, k2, k3, k4, k5, k6⟩ := hk i hlt
  have ek : ([kn 0, kn 1] : List Nat).getD i 0 = kn i := by
   rcases (show i = 0 \/ i = 1 by omega) with rfl | rfl <;> rfl
  have ea : at_ i = if i = 0 then 0 else (kd 0).2.1.length := by
   rcases (show i = 0 \/ i = 1 by omega) with rfl | rfl <;> rfl
  have ea1 : at_ (i + 1) = at_ i + (kd i).2.1.length := by
   rcases (show i = 0 \/ i = 1 by omega) with rfl | rfl
   ·show (kd 0).2.1.length = 0 + _; omega
   ·rfl
  have rec_ := zfl (w := w4) hY hS hR k1 k2 k3 (by rw [k4]; exact ht) k5 k6 (deep := 2) (by omega) (i0 := at_ i) (fun j hj => by rw [ea]; exact hL i j hlt hj) hJ4 (fun k hk => by have := hv3 k hk; omega)
  have next : ∀ (v : Value) w5, zcA w4 Vi J E (at_ i + (kd i).2.1.length) v w5 -> ∃ r : Bool, v = .bool r /\ w4.heap.size <= w5.heap.size /\ ∃ Vj : Nat -> Prop, (∀ q, V1 q -> Vj q) /\ (∀ q, Vj q -> V1 q \/ w2.heap.size <= q) /\ (∀ q, Vj q -> q < w5.heap.size) /\ (∀ q, V1 q -> w5.heap[q]? = w2.heap[q]?) /\ ((r = true /\ J Vj (at_ (i + 1)) w5) \/ (r = false /\ E Vj w5)) := by
   rintro v w5 ⟨Vj, c1, c2, c3, c4, c5, c6⟩
   rw [ea1]
   refine (?_ : ∀ P : Prop, P -> P) _ ?_
   ·exact fun _ h => h
   have g1 : ∀ q, Vj q -> V1 q \/ w2.heap.size <= q := fun q hq => by
    rcases c1 q hq with e | e
    ·exact hv2 q e
    ·exact .inr (by omega)
   have g2 : ∀ q, V1 q -> w5.heap[q]? = w2.heap[q]? := fun q hq => (c4 q (hv1 q hq)).trans (hkp4 q hq)
   rcases c6 with ⟨rfl, c6⟩ | ⟨rfl, c6⟩
   ·exact ⟨true, rfl, c5, Vj, fun q hq => c2 q (hv1 q hq), g1, c3, g2, .inl ⟨rfl, c6⟩⟩
   ·exact ⟨false, rfl, c5, Vj, fun q hq => c2 q (hv1 q hq), g1, c3, g2, .inr ⟨rfl, c6⟩⟩
  refine zn 1 x hb4 (by rfl) ?_
  have hw : IntKind.wrap .i64 ((i : Int) + 1) = ((i + 1 : Nat) : Int) := by rw [wrap_i64 (by omega) (by omega)]; rfl
  rw [hw]
  by_cases h0 : i + 1 < 2
  ·obtain rfl : i = 0 := by omega
   refine zf (decide_eq_true (by omega)) ?_
   refine zn 1 x hb4 (by rfl) ?_
   refine zR (hk3.ext he4) (by omega) (by omega) ?_
   rw [Int.toNat_natCast]
   refine zc (decide_eq_false (show ¬ (((kd 1).2.1.getD 0 0 : Nat) : Int) <= 0 by omega)) ?_
   refine zn 3 y hb4 (by rfl) ?_
   refine zR (hy3.ext he4) (by omega) (by omega) ?_
   rw [Int.toNat_natCast, show ([kn 0, kn 1] : List Nat).getD 0 0 = kn 0 from rfl]
   refine zb rec_ ?_
   intro v w5 hw5
   obtain ⟨r, rfl, c0, Vj, c1, c2, c3, c4, c5⟩ := next v w5 hw5
   refine ⟨r, rfl, ?_⟩
   rcases c5 with ⟨rfl, c5⟩ | ⟨rfl, c5⟩
   ·exact zc (by rfl) ⟨⟨1, Vj, by omega, rfl, c5, c1, c2, c3, c4, by omega⟩, by omega⟩
   ·exact zf (by rfl) (fin (by omega) c1 c2 c3 c4 (.inr ⟨rfl, c5⟩))
  ·obtain rfl : i = 1 := by omega
   refine zc (decide_eq_false (by omega)) ?_
   refine zn 3 y hb4 (by rfl) ?_
   refine zR (hy3.ext he4) (by omega) (by omega) ?_
   rw [Int.toNat_natCast, show ([kn 0, kn 1] : List Nat).getD 1 0 = kn 1 from rfl]
   refine zb rec_ ?_
   intro v w5 hw5
   obtain ⟨r, rfl, c0, Vj, c1, c2, c3, c4, c5⟩ := next v w5 hw5
   refine ⟨r, rfl, ?_⟩
   rcases c5 with ⟨rfl, c5⟩ | ⟨rfl, c5⟩
   ·exact zc (by rfl) ⟨⟨2, Vj, by omega, rfl, c5, c1, c2, c3, c4, by omega⟩, by omega⟩
   ·exact zf (by rfl) (fin (by omega) c1 c2 c3 c4 (.inr ⟨rfl, c5⟩))
 ·obtain rfl : i = 2 := by omega
  refine zc (decide_eq_false (by omega)) ?_
  exact fin (Nat.le_refl _) hv1 hv2 hv3 hkp (.inl ⟨rfl, hJ3⟩)
end V
/- Contracts of the package tree: Each. -/
namespace V
open Go Go.Proofs Go.RowKit Crc
variable {w w' : World} {b db : Nat} {S : Spa} {F : Nat -> Prop} {R : List Nat}
def zbe (ks vs : List Nat) : List (List Value) := (ks.zip vs).map fun p => zch p.1 p.2
theorem zam {ks vs : List Nat} (h : ks.length = vs.length) : (zbe ks vs).length = ks.length := by
 simp [zbe, h]
theorem zbf {ks vs : List Nat} (h : ks.length = vs.length) {j : Nat} (hj : j < ks.length) : (zbe ks vs)[j]? = some (zch (ks.getD j 0) (vs.getD j 0)) := by
 have e1 : ks[j]? = some (ks.getD j 0) := by rw [List.getD_eq_getElem?_getD, List.getElem?_eq_getElem hj]; rfl
 have e2 : vs[j]? = some (vs.getD j 0) := by rw [List.getD_eq_getElem?_getD, List.getElem?_eq_getElem (by omega)]; rfl
 unfold zbe
 rw [List.getElem?_map, List.getElem?_zip_eq_some.2 (show ks[j]? = some (ks.getD j 0, vs.getD j 0).1 /\ vs[j]? = some (ks.getD j 0, vs.getD j 0).2 from ⟨e1, e2⟩)]
 rfl
def zeO (b db : Nat) (S : Spa) (F : Nat -> Prop) (n : Nat) (L : List (List Value)) : Prop :=
 ∀ (w : World) (l : Nat) (J : (Nat -> Prop) -> Nat -> WP) (E : (Nat -> Prop) -> WP) (V : Nat -> Prop), Yld Tryz.prog l L (fun w => ya w b db S F) J E -> Stay (fun w => ya w b db S F) J -> (∀ V i w', J V i w' -> ya w' b db S F) -> J V 0 w -> (∀ k, V k -> k < w.heap.size) ->
  Calls Tryz.prog 126 #[.pointer (some ⟨b, 0, none⟩), .int .u32 (n : Int), .int .u64 0, .int .i64 1, .func (.yield l) #[] #[]] w (Ret (zcA w V J E L.length))
theorem zjm {n : Nat} (hn : n < 4294967296) {p : Page} {d : Nd} (hg : S.get n = (p, 0)) (hd : qN p d) (h3 : d.1 ≠ 3) (hl : d.2.1.length <= 5000) (hv : ∀ i, d.val i < 18446744073709551616) {L : List (List Value)} (hLl : L.length = d.2.1.length)
  (hL : ∀ j, j < d.2.1.length -> L[j]? = some (zch (d.2.1.getD j 0) (d.val j))) : zeO b db S F n L := by
 intro w l J E V hY hS hR hJ hV
 have := zfl (w := w) hY hS hR hn hg hd h3 hl hv (deep := 1) (by omega) (i0 := 0) (fun j hj => by rw [Nat.zero_add]; exact hL j hj) hJ hV
 rw [Nat.zero_add, <- hLl] at this
 exact this
theorem qY {l : List Nat} {N : Nat} (h : ∀ k ∈ l, k < N) (hN : 0 < N) (i : Nat) : l.getD i 0 < N := by
 rw [List.getD_eq_getElem?_getD]
 cases hq : l[i]? with
 | none => exact hN
 | some v => exact h v (List.mem_of_getElem? hq)
theorem zjn (hg : Good S R) {n : Nat} {ks vs : List Nat} (ht : kU S n ks vs) (hu : zI S.sup.pages S.now n = true) (hl : ks.length <= 5000) (hvs : ∀ k ∈ vs, k < 4294967296) : zeO b db S F n (zbe ks vs) := by
 have hn32 : n < 4294967296 := by
  have := hg.well.lt hu
  have := hg.dims.n
  omega
 have hval : ∀ i, vs.getD i 0 < 18446744073709551616 := fun i => by have := qY hvs (by omega) i; omega
 cases ht with
 | one hA =>
  obtain ⟨g1, g2, g3⟩ := hA.get hg hu
  exact zjm hn32 g1 g2 (by show (5 : UInt8) ≠ 3; decide) hl hval (zam hA.2.1) (fun j hj => zbf hA.2.1 hj)
 | two m a c h1 h2 h3 h4 h5 h6 h7 h8 =>
  have hkid : yp S.page n = [a, c] := by unfold yp; rw [h6]
  have hua := ((hg.well.good n hu).2 a (by rw [hkid]; simp))
  have huc := ((hg.well.good n hu).2 c (by rw [hkid]; simp))
  obtain ⟨a1, a2, a3⟩ := h7.get hg hua
  obtain ⟨c1, c2, c3⟩ := h8.get hg huc
  have e0 : (ks.take m).getD 0 0 = ks.getD 0 0 := getD_take (by omega)
  have e1 : (ks.drop m).getD 0 0 = ks.getD m 0 := vI
  have htl : (ks.take m).length = m := by rw [List.length_take]; omega
  have hdl : (ks.drop m).length = ks.length - m := List.length_drop
  have hlt := zcg h4 (m - 1) 0 (by omega)
  rw [show 0 + (m - 1) + 1 = m by omega] at hlt
  have hm : ∀ i, i < ks.length -> ks.getD i 0 < 18446744073709551616 := fun i hi => by
   rw [List.getD_eq_getElem?_getD, List.getElem?_eq_getElem hi]
   exact h5 _ (List.getElem_mem _)
  have hin : qN (S.page n).1 ((3 : UInt8), [ks.getD 0 0, ks.getD m 0], [], [a, c]) := by
   rw [h6]
   refine qN.inner _ _ rfl (by simp) ?_ ?_
   ·show (decide (ks.getD 0 0 < ks.getD m 0) && true) = true
    rw [decide_eq_true hlt]; rfl
   ·intro q hq
    simp only [List.mem_cons, List.not_mem_nil, or_false] at hq
    rcases hq with rfl | rfl
    ·exact hm _ (by omega)
    ·exact hm _ h2
  intro w l J E V hY hS hR hJ hV
  have := zmD (w := w) hY hS hR (t := 5) (kn := fun i => if i = 0 then a else c) (kd := kdT ks vs m) (kp := fun i => if i = 0 then ((5 : UInt8), vs.take m, mkB (k8B (ks.take m))) else ((5 : UInt8), vs.drop m, mkB (k8B (ks.drop m)))) hn32 (by decide) ((hg.get hu).1.trans (Prod.ext rfl (hg.get hu).2)) (p := (S.page n).1) ?_ (fun i hi => ?_) ?_ (fun i j hi hj => ?_) hJ hV
  ·have e2 : (kdT ks vs m 0).2.1.length + (kdT ks vs m 1).2.1.length = (zbe ks vs).length := by
    show (ks.take m).length + (ks.drop m).length = _
    rw [zam h3]; omega
   rw [e2] at this
   exact this
  ·show qN _ ((3 : UInt8), [(ks.take m).getD 0 0, (ks.drop m).getD 0 0], [], [a, c])
   rw [e0, e1]
   exact hin
  ·rcases (show i = 0 \/ i = 1 by omega) with rfl | rfl
   ·exact ⟨a3, a1, a2, rfl, by show (ks.take m).length <= 5000; omega, fun j => by show (vs.take m).getD j 0 < _; have := qY (l := vs.take m) (fun k hk => hvs k (List.mem_of_mem_take hk)) (by omega) j; omega⟩
   ·exact ⟨c3, c1, c2, rfl, by show (ks.drop m).length <= 5000; omega, fun j => by show (vs.drop m).getD j 0 < _; have := qY (l := vs.drop m) (fun k hk => hvs k (List.mem_of_mem_drop hk)) (by omega) j; omega⟩
  ·show 0 < (ks.drop m).getD 0 0
   rw [e1]; omega
  ·rcases (show i = 0 \/ i = 1 by omega) with rfl | rfl
   ·have hj : j < (ks.take m).length := hj
    show (zbe ks vs)[0 + j]? = some (zch ((ks.take m).getD j 0) ((vs.take m).getD j 0))
    rw [Nat.zero_add, getD_take (by omega), getD_take (by omega)]
    exact zbf h3 (by omega)
   ·have hj : j < (ks.drop m).length := hj
    show (zbe ks vs)[(ks.take m).length + j]? = some (zch ((ks.drop m).getD j 0) ((vs.drop m).getD j 0))
    rw [htl, vI, vI]
    exact zbf h3 (by omega)
def Three (b n r1 r2 r3 : Nat) : WP := fun w => Blk w r1 [.pointer (some ⟨b, 0, none⟩)] 48 /\ Blk w r2 [.int .u32 (n : Int)] 41 /\ Blk w r3 [.int .u64 0] 42
theorem zjo {n : Nat} {L : List (List Value)} (hw : zeO b db S F n L) (hn0 : n ≠ 0) :
  Calls Tryz.prog 80 #[.pointer (some ⟨b, 0, none⟩), .int .u32 (n : Int), .int .u64 0] w (Ret fun v w' => ∃ (Q : Nat -> Prop) (R0 : WP), zjg Tryz.prog v L (fun w => ya w b db S F) Q R0 (fun _ => True) (fun _ _ => True) /\ R0 w' /\ (∀ w1 w2, R0 w1 -> Ext w1 w2 -> R0 w2) /\ (∀ k, Q k -> k < w'.heap.size) /\ (∀ k, Q k -> w.heap.size <= k) /\ Ext w w') := by
 apply znX
 unfold S80
 refine zr fun r1 w1 hb1 he1 hr1 hz1 => ?_
 refine zr fun r2 w2 hb2 he2 hr2 hz2 => ?_
 refine zr fun r3 w3 hb3 he3 hr3 hz3 => ?_
 have he := (he1.trans he2).trans he3
 refine ⟨fun k => k = r1 \/ k = r2 \/ k = r3, Three b n r1 r2 r3, ?_, ⟨(hb1.ext he2).ext he3, hb2.ext he3, hb3⟩, fun w1 w2 h1 h2 => ⟨h1.1.ext h2, h1.2.1.ext h2, h1.2.2.ext h2⟩, fun k hk => by rcases hk with rfl | rfl | rfl <;> omega, fun k hk => by rcases hk with rfl | rfl | rfl <;> omega, he⟩
 refine ⟨_, _, rfl, by kernel_rfl, fun l J E wc hJ0 hQc hR0c hJR hJs hEs hY => ?_⟩
 obtain ⟨k1, k2, k3⟩ := hR0c
 apply zlc
 unfold S125
 refine zE (some (aD b)) k1 (by rfl) (zf (by rfl) ?_)
 refine zE ((n : Nat) : Int) k2 (by rfl) (zf (bne_iff_ne.2 (by omega)) ?_)
 refine zE (some (aD b)) k1 (by rfl) (zE ((n : Nat) : Int) k2 (by rfl) (zE (0 : Int) k3 (by rfl) ?_))
 refine zb (hw _ _ _ _ _ (fun V i w' h hJ hV => hY V i w' h hJ hV (fun _ _ => trivial)) hJs hJR hJ0 hQc) ?_
 rintro v w4 ⟨V', a1, a2, a3, a4, a5, ⟨rfl, a6⟩ | ⟨rfl, a6⟩⟩
 ·exact ⟨true, rfl, V', .inl ⟨a6, a1, trivial⟩⟩
 ·exact ⟨false, rfl, V', .inr a6⟩
end V
/- Contracts of the package blob: Most, Put. -/
namespace V
open Go Go.Proofs Go.RowKit Crc
variable {w w' : World} {b db : Nat} {S : Spa} {F Fd : Nat -> Prop} {x : SLC} {hb hr nb nr : Nat} {m : MkL}
theorem xN {S : Spa} (h : uG S) : S.room 0 = (S.r0 : Int) /\ 110 <= S.r0 /\ S.r0 <= 4078 /\ S.sup.size = (S.r0 : Int) + 18 := by
 have hsz := h.size
 have hr0 : S.room 0 = S.sup.size - 18 := by unfold Spa.room; rw [h.room, if_neg (by omega)]; omega
 unfold Spa.r0
 omega
theorem zjp (h : SpM w b db S F Fd x hb hr nb nr m) :
  Calls Tryz.prog 131 #[.pointer (some ⟨b, 0, none⟩)] w (Ret fun v w' => v = .int .i64 (qD S.r0 : Int) /\ Ext w w') := by
 obtain ⟨h0, h1, h2, h3⟩ := xN h.dims
 apply zlf
 unfold S131
 refine zb (qL h (k := 0) (by omega) (by omega)) ?_
 rintro _ w1 ⟨rfl, he⟩
 refine ⟨_, rfl, ?_, he⟩
 rw [h0]
 have e1 : IntKind.wrap .i64 ((S.r0 : Int) - 4) = ((S.r0 - 4 : Nat) : Int) := by rw [wrap_i64 (by omega) (by omega)]; omega
 have e2 : IntKind.wrap .i64 (Int.tdiv ((S.r0 - 4 : Nat) : Int) 4) = (((S.r0 - 4) / 4 : Nat) : Int) := by
  rw [show Int.tdiv ((S.r0 - 4 : Nat) : Int) 4 = (((S.r0 - 4) / 4 : Nat) : Int) from rfl, wrap_i64 (by omega) (by omega)]
 have hm : (S.r0 - 4) / 4 * S.r0 <= 1019 * 4078 := Nat.mul_le_mul (by omega) h2
 have hm1 : 26 * 110 <= (S.r0 - 4) / 4 * S.r0 := Nat.mul_le_mul (by omega) h1
 have e3 : IntKind.wrap .i64 ((((S.r0 - 4) / 4 : Nat) : Int) * (S.r0 : Int)) = (((S.r0 - 4) / 4 * S.r0 : Nat) : Int) := by
  rw [<- Int.natCast_mul, wrap_i64 (by omega) (by omega)]
 rw [e1, e2, e3]
 unfold qD
 generalize (S.r0 - 4) / 4 * S.r0 = M at *
 refine congrArg (Value.int .i64) ?_
 by_cases hM : M < 65536
 ·rw [if_pos (show (M : Int) < 65536 by omega), if_pos (show (M : Int) > 0 by omega)]; omega
 ·rw [if_neg (show ¬ (M : Int) < 65536 by omega), if_pos (by decide)]; omega
theorem zef {r1 r2 r8 n c : Nat} {A : Option Addr} {ks c' : List Nat} {e : Int} (h : SpM w b db S F Fd x hb hr nb nr m) (h1 : Blk w r1 [.pointer (some ⟨b, 0, none⟩)] 48) (h2 : Blk w r2 [.int .i64 e] 28) (h8 : Blk w r8 [.slice A n c] 54)
  (hs : Sli (zu .u32) w A n ks) (h32 : ∀ k ∈ ks, k < 4294967296) (hf1 : ¬ F r1) (hf2 : ¬ F r2) (hA : ∀ a, A = some a -> ¬ F a.block) (hD : e ≠ 0 -> Drps S.asked S.page S.now ks c') :
  ui Tryz.prog 132 [.pointer (some ⟨r2, 0, none⟩), .pointer (some ⟨r8, 0, none⟩), .pointer (some ⟨r1, 0, none⟩)] w fun _ w' => SpM w' b db { S with now := if e = 0 then S.now else c' } F Fd x hb hr nb nr m /\ Only F w w' /\ Blk w' r2 [.int .i64 e] 28 := by
 apply zjQ
 unfold S132
 refine zo (x := e) h2 (by rfl) ?_
 refine zg (fun hq => ?_) (fun hq => ?_)
 ·have hq := bne_iff_ne.1 hq
  rw [if_neg hq]
  have hD := hD hq
  refine zo (l := .slc) (x := (A, n, c)) h8 (by rfl) ?_
  dsimp only
  have hl := hs.len
  have hle := hs.le
  refine zx (fun y w' => ∃ (i : Nat) (cc : List Nat), i <= n /\ y = ((i : Int), ()) /\ SpM w' b db { S with now := cc } F Fd x hb hr nb nr m /\ Only F w w' /\ Drps S.asked S.page cc (ks.drop i) c') (fun y => (n - y.1).toNat) ⟨0, S.now, by omega, rfl, h, Only.refl F w, hD⟩ ?_
  rintro _ w1 ⟨i, cc, hi, rfl, hS, hO, hDi⟩
  dsimp only
  by_cases hlt : i < n
  ·refine zf (decide_eq_true (by omega)) ?_
   refine zR (hs.only hO hA) (by omega) (by omega) ?_
   rw [Int.toNat_natCast]
   have eg : ks[i]? = some (ks.getD i 0) := by rw [List.getD_eq_getElem?_getD, List.getElem?_eq_getElem (by omega)]; rfl
   have hk32 := h32 _ (List.mem_of_getElem? eg)
   have edrop : ks.drop i = ks.getD i 0 :: ks.drop (i + 1) := by
    obtain ⟨q1, q2⟩ := List.getElem?_eq_some_iff.1 eg
    rw [List.drop_eq_getElem_cons q1, q2]
   rw [edrop] at hDi
   refine zo (x := some ⟨b, 0, none⟩) (h1.only hO hf1) (by rfl) ?_
   generalize ks.getD i 0 = k at *
   cases hDi with
   | @cons _ c1 _ _ _ e1 d1 d2 d3 =>
   refine zb (zec hS hk32 (c' := c1) (e := e1) d1 d2) ?_
   rintro _ w2 ⟨rfl, hS2, hO2⟩
   refine ⟨_, rfl, ?_⟩
   refine ⟨⟨i + 1, c1, by omega, by rw [wrap_i64 (by omega) (by omega)]; rfl, hS2, Only.trans hO hO2 (fun j hj => .inl hj), d3⟩, by rw [wrap_i64 (by omega) (by omega)]; omega⟩
  ·obtain rfl : i = n := by omega
   refine zc (decide_eq_false (by omega)) ?_
   rw [List.drop_of_length_le (by omega)] at hDi
   cases hDi
   exact ⟨hS, hO, h2.only hO hf2⟩
 ·have hq := bne_eq_false_iff_eq.1 hq
  rw [if_pos hq]
  exact ⟨h, Only.refl F w, h2⟩
def zmW (w : World) (b db : Nat) (F : Nat -> Prop) (S : Spa) (R : List Nat) (bs : ByteArray) (v : Value) (w' : World) : Prop :=
 (qD S.r0 < bs.size /\ v = .tuple #[.int .u32 0, .int .i64 3] /\ yx w b db F S w') \/
 (bs.size <= qD S.r0 /\ S.sup.pages.length + nparts S.r0 bs.size + 1 <= S.zV /\ ∃ (S1 S2 : Spa) (ks : List Nat) (n : Nat), Puts S S1 R ks (vA S.r0 bs (nparts S.r0 bs.size)) /\ vz S1 S2 ((6 : UInt8), ks, mkB (le 4 bs.size)) n /\ Good S2 (n :: R) /\ v = .tuple #[.int .u32 (n : Int), .int .i64 0] /\ yx w b db F S2 w') \/
 (bs.size <= qD S.r0 /\ S.zV < S.sup.pages.length + nparts S.r0 bs.size + 1 /\ ∃ (S1 : Spa) (ks : List Nat) (ps : List Page), Puts S S1 R ks ps /\ Good { S1 with now := S.now } R /\ v = .tuple #[.int .u32 0, .int .i64 9] /\ yx w b db F { S1 with now := S.now } w')
theorem zci {r len : Nat} (h1 : 110 <= r) (hm : len <= qD r) : 4 * nparts r len + 4 <= r /\ nparts r len <= 65536 := by
 unfold qD at hm
 have h2 : len <= (r - 4) / 4 * r := by omega
 have h3 : nparts r len <= (r - 4) / 4 := by
  unfold nparts
  rw [Nat.div_le_iff_le_mul_add_pred (by omega)]
  rw [Nat.mul_comm r]
  omega
 have h4 : nparts r len <= len := by
  unfold nparts
  rw [Nat.div_le_iff_le_mul_add_pred (by omega)]
  have : len <= r * len := Nat.le_mul_of_pos_left _ (by omega)
  omega
 omega
theorem zjq {R : List Nat} (h : SpM w b db S F Fd x hb hr nb nr m) (hg : Good S R) (hpen : S.dev.pen.length <= 900000) (bs : ByteArray) (hbs : bs.size <= 1000000000) :
  Calls Tryz.prog 85 #[.pointer (some ⟨b, 0, none⟩), .string bs] w (Ret (zmW w b db F S R bs)) := by
 obtain ⟨q0, q1, q2, q3⟩ := xN h.dims
 have hFlt := h.lt
 apply zn2
 unfold S85
 refine zr fun r1 w1 hb1 he1 hr1 hz1 => ?_
 refine zr fun r2 w2 hb2 he2 hr2 hz2 => ?_
 have hb1 := hb1.ext he2
 have he := he1.trans he2
 refine zo (x := some ⟨b, 0, none⟩) hb1 (by rfl) (zc (by rfl) ?_)
 refine zo (x := some ⟨b, 0, none⟩) hb1 (by rfl) ?_
 refine zb (zjp (h.ext he)) ?_
 rintro _ w3 ⟨rfl, he3⟩
 refine ⟨_, rfl, ?_⟩
 have hb1 := hb1.ext he3
 have hb2 := hb2.ext he3
 have he3' := he.trans he3
 have hs1 := he1.size
 refine zg (fun hq => ?_) (fun hq => ?_)
 ·have hq := of_decide_eq_true hq
  refine zO hb2 (by show 0 < 1; omega) ?_
  refine zo (x := (3 : Int)) (hb2.set 0 (.int .i64 3)) (by rfl) ?_
  exact .inl ⟨by omega, rfl, yx.ext h.zeJ (he3'.set (p := ⟨r2, 0, none⟩) (by show w.heap.size <= r2; omega) _)⟩
 have hmost : bs.size <= qD S.r0 := by have := of_decide_eq_false hq; omega
 obtain ⟨hn1, hn2⟩ := zci q1 hmost
 refine zr fun r8 w4 hb8 he4 hr8 hz8 => ?_
 have hb1 := hb1.ext he4
 have hb2 := hb2.ext he4
 have he4' := he3'.trans he4
 refine zo (x := some ⟨b, 0, none⟩) hb1 (by rfl) ?_
 refine zb (qL (h.ext he4') (k := 0) (by omega) (by omega)) ?_
 rintro _ w5 ⟨rfl, he5⟩
 refine ⟨_, rfl, ?_⟩
 rw [q0]
 refine zJ (by omega) ?_
 have hb1 := hb1.ext he5
 have hb2 := hb2.ext he5
 have hb8 := hb8.ext he5
 have he5' := he4'.trans he5
 have hr1l := hb1.lt
 have hr2l := hb2.lt
 have hr8l := hb8.lt
 have hs3 := he3.size
 generalize hm : nparts S.r0 bs.size = M at *
 have eM : IntKind.wrap .i64 (Int.tdiv (IntKind.wrap .i64 (IntKind.wrap .i64 (((bs.size : Nat) : Int) + (S.r0 : Int)) - 1)) (S.r0 : Int)) = (M : Int) := by
  rw [wrap_i64 (x := ((bs.size : Nat) : Int) + (S.r0 : Int)) (by omega) (by omega), wrap_i64 (x := ((bs.size : Nat) : Int) + (S.r0 : Int) - 1) (by omega) (by omega)]
  rw [show ((bs.size : Nat) : Int) + (S.r0 : Int) - 1 = ((bs.size + S.r0 - 1 : Nat) : Int) by omega, show Int.tdiv ((bs.size + S.r0 - 1 : Nat) : Int) (S.r0 : Int) = (((bs.size + S.r0 - 1) / S.r0 : Nat) : Int) from rfl]
  have : (bs.size + S.r0 - 1) / S.r0 = M := hm
  rw [this, wrap_i64 (by omega) (by omega)]
 rw [eM]
 have hnF : ∀ j, w.heap.size <= j -> ¬ F j := fun j hj hf => by have := hFlt j hf; omega
 -- the end, with an error: what was put goes back
 have fail : ∀ {S1 : Spa} {ks : List Nat} {F' : Nat -> Prop} {w9 : World} {A : Option Addr} {c : Nat} (i : Nat), i = ks.length -> Puts S S1 R ks (vA S.r0 bs i) -> ya w9 b db S1 F' -> (∀ k, F' k -> F k \/ w5.heap.size <= k) -> Only F w w9 -> S.zV < S.sup.pages.length + M + 1 ->
   Blk w9 r1 [.pointer (some ⟨b, 0, none⟩)] 48 -> Blk w9 r2 [.int .i64 0] 28 -> Blk w9 r8 [.slice A i c] 54 -> Sli (zu .u32) w9 A i ks -> (∀ a, A = some a -> w.heap.size <= a.block /\ a.block ≠ r1 /\ a.block ≠ r2 /\ a.block ≠ r8 /\ ¬ F' a.block) ->
   stW ⟨r2, 0, none⟩ (.int .i64 9) (zM Tryz.prog (⟨.fn (.func 132) #[.pointer (some ⟨r2, 0, none⟩), .pointer (some ⟨r8, 0, none⟩), .pointer (some ⟨r1, 0, none⟩)], #[]⟩ :: []) (ldW (.int .i64) ⟨r2, 0, none⟩ fun u => zmW w b db F S R bs (.tuple #[.int .u32 0, .int .i64 u]))) w9 := by
  rintro S1 ks F' w9 A c i rfl hP ⟨Fd', x', hb', hr', nb', nr', m', hS1⟩ hF' hO hfull k1 k2 k8 hs hA
  refine zO k2 (by show 0 < 1; omega) ?_
  have hg9 := yF w9 r2 0 (.int .i64 9)
  have oc : Only (fun k => k = r2) w9 (w9.setCell ⟨r2, 0, none⟩ (.int .i64 9)) := Only.z7 hg9 (fun j hj => .inl (by injection hj with hj; exact hj.symm))
  have k2' := k2.set 0 (.int .i64 9)
  have hF5 : ∀ j, w.heap.size <= j -> j < w5.heap.size -> ¬ F' j := fun j a1 a2 hf => by
   rcases hF' j hf with e | e
   ·exact hnF j a1 e
   ·omega
  have hS1' := hS1.only oc (fun j hj e => hF5 r2 (by omega) (by omega) (by rw [<- show j = r2 from e]; exact hj))
  obtain ⟨c', u1, u2, u3⟩ := hP.undo hg (fun j hj => by
   unfold vA
   simp [List.getD_eq_getElem?_getD, hj])
  have h32 : ∀ k ∈ ks, k < 4294967296 := fun k hk => by have := (hP.mem hk).2.1; have := h.dims.n; omega
  refine .inr ⟨_, _, rfl, by kernel_rfl, ?_⟩
  refine CallsDIn.mono (zef (c' := c') hS1' (k1.only oc (by show ¬ r1 = r2; omega)) k2' (k8.only oc (by show ¬ r8 = r2; omega)) (hs.only oc (fun a ha e => (hA a ha).2.2.1 e)) h32 (hF5 r1 (by omega) (by omega)) (hF5 r2 (by omega) (by omega)) (fun a ha => (hA a ha).2.2.2.2) (fun _ => u1)) ?_
  rintro e u' w10 ⟨hu, hR⟩
  refine ⟨hu, ?_⟩
  cases e with
  | returned v =>
   obtain ⟨p1, p2, p3⟩ := hR
   refine zo (x := (9 : Int)) p3 (by rfl) (.inr (.inr ⟨hmost, by rw [hm]; omega, S1, ks, _, hP, by rw [<- u2]; exact u3, rfl, F', ?_, fun k hk => ?_, ?_⟩))
   ·rw [if_neg (by decide), u2] at p1
    exact p1.zeJ
   ·rcases hF' k hk with e | e
    ·exact .inl e
    ·exact .inr (Nat.le_trans he5'.size e)
   ·have o9 : Only F w (w9.setCell ⟨r2, 0, none⟩ (.int .i64 9)) := Only.trans hO oc (fun j hj => .inr (by have : j = r2 := hj; omega))
    exact Only.trans o9 p2 (fun j hj => by
     rcases hF' j hj with e | e
     ·exact .inl e
     ·exact .inr (Nat.le_trans he5'.size e))
  | panicked c => exact hR.elim
  | outgrown => exact hR.elim
 refine zx (fun y w' => ∃ (i : Nat) (Si : Spa) (ks : List Nat) (F' : Nat -> Prop) (A : Option Addr) (c : Nat), i <= M /\ i = ks.length /\ y = ((i : Int), ()) /\ Puts S Si R ks (vA S.r0 bs i) /\ ya w' b db Si F' /\ (∀ k, F' k -> F k \/ w5.heap.size <= k) /\ Only F w w' /\ w5.heap.size <= w'.heap.size /\
   Blk w' r1 [.pointer (some ⟨b, 0, none⟩)] 48 /\ Blk w' r2 [.int .i64 0] 28 /\ Blk w' r8 [.slice A i c] 54 /\ Owni (zu .u32) 41 w' w5.heap.size A i c ks /\ (∀ j, orow A = some j -> ¬ F' j)) (fun y => (M - y.1).toNat)
  ⟨0, S, [], F, none, 0, by omega, rfl, rfl, Puts.nil hg, (h.ext he5').zeJ, fun k hk => .inl hk, Only.zG he5', Nat.le_refl _, hb1, hb2, hb8, Owni.nil _ _ _, fun j hj => by cases hj⟩ ?_
 rintro _ w6 ⟨i, Si, ks, F', A, c, hi, hik, rfl, hP, hAt, hF', hO, hsz, k1, k2, k8, ho, hAF⟩
 dsimp only
 have hF5 : ∀ j, w.heap.size <= j -> j < w5.heap.size -> ¬ F' j := fun j a1 a2 hf => by
  rcases hF' j hf with e | e
  ·exact hnF j a1 e
  ·omega
 have hF'w : ∀ k, F' k -> F k \/ w.heap.size <= k := fun k hk => by
  rcases hF' k hk with e | e
  ·exact .inl e
  ·exact .inr (Nat.le_trans he5'.size e)
 have hrow : ∀ a, A = some a -> w5.heap.size <= a.block := fun a ha => ho.row _ (by rw [ha]; rfl)
 have hAok : ∀ a, A = some a -> w.heap.size <= a.block /\ a.block ≠ r1 /\ a.block ≠ r2 /\ a.block ≠ r8 /\ ¬ F' a.block := fun a ha => by
  have := hrow a ha
  exact ⟨by omega, by omega, by omega, by omega, hAF _ (by rw [ha]; rfl)⟩
 have hfr : S.zV = ks.length + Si.zV := by
  unfold Spa.zV
  rw [hP.free, List.length_append]
 have hr0i : Si.r0 = S.r0 /\ Si.room 0 = (S.r0 : Int) /\ ∀ k, Si.room k = S.room k := by
  have : ∀ k, Si.room k = S.room k := fun k => by unfold Spa.room; rw [hP.sup]
  refine ⟨by unfold Spa.r0; rw [this], by rw [this]; exact q0, this⟩
 have hpeni : Si.dev.pen.length <= 1000000 := by rw [hP.pen]; omega
 have hgeni : Si.sup.gen + 1 < 18446744073709551616 := by have := hP.good.gen; omega
 have hpgi : Si.sup.pages.length = S.sup.pages.length := by rw [hP.sup]
 by_cases hlt : i < M
 ·refine zf (decide_eq_true (by omega)) ?_
  refine zK fun w7 he7 _ _ => ?_
  have hoi7 := ho.ext he7
  have hAt7 := hAt.ext he7
  have o7 : Only F w w7 := Only.trans hO (Only.zG (F := F) he7) (fun j hj => .inl hj)
  refine zo (x := some ⟨b, 0, none⟩) (k1.ext he7) (by rfl) ?_
  have hilt : i * S.r0 < bs.size := (zce (by omega)).1 (by rw [hm]; exact hlt)
  have hsucc : (i + 1) * S.r0 = i * S.r0 + S.r0 := by rw [Nat.add_mul, Nat.one_mul]
  have w1' : IntKind.wrap .i64 ((i : Int) * (S.r0 : Int)) = ((i * S.r0 : Nat) : Int) := by rw [<- Int.natCast_mul, wrap_i64 (by omega) (by omega)]
  have w2' : IntKind.wrap .i64 ((i : Int) + 1) = ((i + 1 : Nat) : Int) := by rw [wrap_i64 (by omega) (by omega)]; rfl
  have w3' : IntKind.wrap .i64 (((i + 1 : Nat) : Int) * (S.r0 : Int)) = (((i + 1) * S.r0 : Nat) : Int) := by rw [<- Int.natCast_mul, wrap_i64 (by omega) (by omega)]
  have w4' : (if (((i + 1) * S.r0 : Nat) : Int) < ((bs.size : Nat) : Int) then (((i + 1) * S.r0 : Nat) : Int) else ((bs.size : Nat) : Int)) = ((min bs.size ((i + 1) * S.r0) : Nat) : Int) := by split <;> omega
  rw [w1', w2', w3', w4']
  refine zJ ⟨by omega, by omega, by omega⟩ ?_
  rw [Int.toNat_natCast, Int.toNat_natCast]
  show ze _ _ [_, .agg (pgV ((7 : UInt8), [], part S.r0 bs i) (none, 0, 0)).toArray] _ _ w7
  obtain ⟨Fd7, x7, hb7, hr7, nb7, nr7, m7, hS7⟩ := hAt7
  have hps := zcf (r := S.r0) (b := bs) (i := i) (by omega) (by rw [hm]; exact hlt)
  refine zb (za9 hS7 hP.good.h01 hgeni hpeni ((7 : UInt8), [], part S.r0 bs i) (Sli.nil w7 none) (by simp) (fun a ha => by cases ha) (by show (part S.r0 bs i).size <= _; omega)) ?_
  rintro _ w8 ⟨rfl, F8, hAt8, hF8, hO8⟩
  have hF8w : ∀ k, F8 k -> F k \/ w5.heap.size <= k := fun k hk => by
   rcases hF8 k hk with e | e
   ·exact hF' k e
   ·exact .inr (by have := he7.size; omega)
  have o8 : Only F w w8 := Only.trans o7 hO8 hF'w
  have k18 := (k1.ext he7).only hO8 (hF5 r1 (by omega) (by omega))
  have k28 := (k2.ext he7).only hO8 (hF5 r2 (by omega) (by omega))
  have k88 := (k8.ext he7).only hO8 (hF5 r8 (by omega) (by omega))
  have ho8 := hoi7.only hO8 hAF
  have hAF8 : ∀ j, orow A = some j -> ¬ F8 j := fun j hj hf => by
   rcases hF8 j hf with e | e
   ·exact hAF j hj e
   ·have := hoi7.yc j hj; omega
  have hs8 := hO8.2.2.2.1
  have hs7 := he7.size
  by_cases hfree : Si.sup.pages.length < Si.zV
  ·obtain ⟨s1, s2⟩ := hP.step (t := 7) (d := part S.r0 bs i) (by decide) (by rw [hr0i.2.1]; omega) hfree
   refine ⟨(((Si.put ((7 : UInt8), [], part S.r0 bs i)).2.1 : Int), (Si.put ((7 : UInt8), [], part S.r0 bs i)).2.2, ()), rfl, ?_⟩
   rw [s1]
   refine zc (by rfl) ?_
   generalize (Si.put ((7 : UInt8), [], part S.r0 bs i)).2.1 = n at *
   refine zo (l := .slc) (x := (A, i, c)) k88 (by rfl) ?_
   dsimp only
   have hle := ho8.le
   refine yZ (E := zu .u32) (ys := [n]) (by rfl) rfl jD ho8 (by omega) (by omega) (by omega) ?_
   intro A' c' w9 ho9 hg9
   have hx9 : ∀ j, orow A = some j -> w5.heap.size <= j := fun j hj => ho8.row j hj
   have oc : Only (fun j => orow A = some j) w8 w9 := Only.z7 hg9.grown (fun j hj => .inl hj)
   have hAt9 := hAt8.only oc (fun j hj e => hAF8 j e hj)
   have k19 := k18.only oc (fun e => by have := hx9 _ e; omega)
   have k29 := k28.only oc (fun e => by have := hx9 _ e; omega)
   have k89 := k88.only oc (fun e => by have := hx9 _ e; omega)
   have o9 : Only F w w9 := Only.trans o8 oc (fun j hj => .inr (by have := hx9 j hj; omega))
   refine zO k89 (by show 0 < 1; omega) ?_
   have hg10 := yF w9 r8 0 (.slice A' (i + 1) c')
   have oc2 : Only (fun k => k = r8) w9 (w9.setCell ⟨r8, 0, none⟩ (.slice A' (i + 1) c')) := Only.z7 hg10 (fun j hj => .inl (by injection hj with hj; exact hj.symm))
   have hr8F : ¬ F8 r8 := fun hf => by
    rcases hF8w r8 hf with e | e
    ·exact hnF r8 (by omega) e
    ·omega
   refine ⟨⟨i + 1, _, ks ++ [n], F8, A', c', by omega, by rw [List.length_append, List.length_singleton, hik], rfl, by rw [zjl]; exact s2, hAt9.only oc2 (fun j hj e => hr8F (by rw [<- show j = r8 from e]; exact hj)), hF8w, Only.trans o9 oc2 (fun j hj => .inr (by have : j = r8 := hj; omega)), ?_, k19.only oc2 (by show ¬ r1 = r8; omega), k29.only oc2 (by show ¬ r2 = r8; omega), k89.set 0 _, ?_, fun j hj => ?_⟩, by omega⟩
   ·exact Nat.le_trans hsz (Nat.le_trans hs7 (Nat.le_trans hs8 (Nat.le_trans hg9.grown.size hg10.size)))
   ·exact ho9.only oc2 (fun j hj e => by have := ho9.row j hj; have : j = r8 := e; omega)
   ·rcases hg9.next j hj with e | e
    ·exact hAF8 j e
    ·intro hf; have := hAt8.lt j hf; omega
  ·have e9 := zgK (S := Si) (R := ks ++ R) (p := ((7 : UInt8), [], part S.r0 bs i)) hP.good (show 3 <= (7 : UInt8).toNat by decide) (by rw [hr0i.2.1]; show ((0 : Nat) : Int) <= _; omega) (by show ((part S.r0 bs i).size : Int) <= Si.room ((0 : Nat) : Int); rw [show (((0 : Nat) : Int)) = 0 from rfl, hr0i.2.1]; omega) (by omega)
   rw [e9] at hAt8 ⊢
   refine ⟨((0 : Int), (9 : Int), ()), rfl, zf (by rfl) ?_⟩
   exact fail i hik hP hAt8 hF8w o8 (by omega) k18 k28 k88 ho8.sl (fun a ha => by
    obtain ⟨a1, a2, a3, a4, a5⟩ := hAok a ha
    exact ⟨a1, a2, a3, a4, hAF8 _ (by rw [ha]; rfl)⟩)
 obtain rfl : i = M := by omega
 refine zc (decide_eq_false (by omega)) ?_
 refine zK fun w7 he7 _ _ => ?_
 have o7 : Only F w w7 := Only.trans hO (Only.zG (F := F) he7) (fun j hj => .inl hj)
 refine zo (x := some ⟨b, 0, none⟩) (k1.ext he7) (by rfl) ?_
 refine zo (l := .slc) (x := (A, i, c)) (k8.ext he7) (by rfl) ?_
 rw [zy (by omega)]
 refine zb (xe (bs := []) (v := bs.size) (k := 4) (Own.nil 5 w7 w7.heap.size) (Nat.le_refl _) (by omega) (by omega) (by omega) (by omega)) ?_
 rintro _ w8 ⟨y8, rfl, ho8, hg8⟩
 refine ⟨y8, rfl, ?_⟩
 have hx8 : Ext w7 w8 := (Ext.refl w7).grown hg8.grown (fun j hj => by cases hj)
 have he8 := he7.trans hx8
 have k18 := k1.ext he8
 have k28 := k2.ext he8
 have k88 := k8.ext he8
 have hoo := ho.ext he8
 have o8 : Only F w w8 := Only.trans hO (Only.zG (F := F) he8) (fun j hj => .inl hj)
 have held : ∀ l ∈ ([[((aD r8), .slice A i c)], [((aD r1), .pointer (some ⟨b, 0, none⟩))]] : List (List (Addr × Value))), ∀ p ∈ l, w8.cell? p.1 = some p.2 := fun l hl p hp => by
  simp only [List.mem_cons, List.not_mem_nil, or_false] at hl
  rcases hl with rfl | rfl <;> (simp only [List.mem_cons, List.not_mem_nil, or_false] at hp; subst hp)
  ·exact (k88.cell 0).trans rfl
  ·exact (k18.cell 0).trans rfl
 refine ⟨held, ?_⟩
 refine qI (e := 5) (by kernel_rfl) (by kernel_rfl) (by kernel_rfl) ho8.sl ?_
 refine ⟨held, ?_⟩
 rw [List.nil_append]
 show ze _ _ [_, .agg (pgV ((6 : UInt8), ks, mkB (le 4 bs.size)) (A, i, c)).toArray] _ _ w8
 obtain ⟨Fd8, x8, hb8', hr8', nb8, nr8, m8, hS8⟩ := hAt.ext he8
 have hs8 := he8.size
 have hp1 : ((6 : UInt8), ks, mkB (le 4 bs.size)).2.1.length = i := hik.symm
 have hd4 : (mkB (le 4 bs.size)).size = 4 := by rw [xm, zv]
 have hkr : Si.room ks.length = (S.r0 : Int) - 4 * i := by
  have := h.dims.room
  rw [hr0i.2.2, <- hik]
  unfold Spa.room
  rw [this, if_neg (by omega)]
  omega
 refine zb (za9 hS8 hP.good.h01 hgeni hpeni ((6 : UInt8), ks, mkB (le 4 bs.size)) hoo.sl (fun k hk => by have := (hP.mem hk).2.1; have := h.dims.n; omega) (fun a ha => (hAok a ha).2.2.2.2) (by show (mkB (le 4 bs.size)).size <= _; omega)) ?_
 rintro _ w9 ⟨rfl, F9, hAt9, hF9, hO9⟩
 have hF9w : ∀ k, F9 k -> F k \/ w5.heap.size <= k := fun k hk => by
  rcases hF9 k hk with e | e
  ·exact hF' k e
  ·exact .inr (by omega)
 have o9 : Only F w w9 := Only.trans o8 hO9 hF'w
 have k19 := k18.only hO9 (hF5 r1 (by omega) (by omega))
 have k29 := k28.only hO9 (hF5 r2 (by omega) (by omega))
 have k89 := k88.only hO9 (hF5 r8 (by omega) (by omega))
 have ho9 := hoo.only hO9 hAF
 have hAF9 : ∀ j, orow A = some j -> ¬ F9 j := fun j hj hf => by
  rcases hF9 j hf with e | e
  ·exact hAF j hj e
  ·have := hoo.yc j hj; omega
 have hA9 : ∀ a, A = some a -> w.heap.size <= a.block /\ a.block ≠ r1 /\ a.block ≠ r2 /\ a.block ≠ r8 /\ ¬ F9 a.block := fun a ha => by
  obtain ⟨a1, a2, a3, a4, a5⟩ := hAok a ha
  exact ⟨a1, a2, a3, a4, hAF9 _ (by rw [ha]; rfl)⟩
 by_cases hfree : Si.sup.pages.length < Si.zV
 ·obtain ⟨s1, s2, s3⟩ := zdv (S := Si) (R := R) (p := ((6 : UInt8), ks, mkB (le 4 bs.size))) hP.good (show 3 <= (6 : UInt8).toNat by decide) (by show ((ks.length : Nat) : Int) <= _; rw [hr0i.2.1]; omega) (by show ((mkB (le 4 bs.size)).size : Int) <= Si.room ((ks.length : Nat) : Int); rw [hkr, hd4]; omega) hfree
  refine ⟨(((Si.put ((6 : UInt8), ks, mkB (le 4 bs.size))).2.1 : Int), (Si.put ((6 : UInt8), ks, mkB (le 4 bs.size))).2.2, ()), rfl, ?_⟩
  rw [s1]
  refine zO k29 (by show 0 < 1; omega) ?_
  have hg10 := yF w9 r2 0 (.int .i64 0)
  have oc : Only (fun k => k = r2) w9 (w9.setCell ⟨r2, 0, none⟩ (.int .i64 0)) := Only.z7 hg10 (fun j hj => .inl (by injection hj with hj; exact hj.symm))
  have hr2F : ¬ F9 r2 := fun hf => by
   rcases hF9w r2 hf with e | e
   ·exact hnF r2 (by omega) e
   ·omega
  obtain ⟨Fd9, x9, hb9', hr9', nb9, nr9, m9, hS9⟩ := hAt9
  have hS9' := hS9.only oc (fun j hj e => hr2F (by rw [<- show j = r2 from e]; exact hj))
  refine .inr ⟨_, _, rfl, by kernel_rfl, ?_⟩
  have hr1F : ¬ F9 r1 := fun hf => by
   rcases hF9w r1 hf with e | e
   ·exact hnF r1 (by omega) e
   ·omega
  refine CallsDIn.mono (zef (c' := []) (ks := ks) (e := 0) hS9' (k19.only oc (by show ¬ r1 = r2; omega)) (k29.set 0 (.int .i64 0)) (k89.only oc (by show ¬ r8 = r2; omega)) (ho9.sl.only oc (fun a ha e => (hA9 a ha).2.2.1 e)) (fun k hk => by have := (hP.mem hk).2.1; have := h.dims.n; omega) hr1F hr2F (fun a ha => (hA9 a ha).2.2.2.2) (fun e => absurd rfl e)) ?_
  rintro e u' w11 ⟨hu, hR⟩
  refine ⟨hu, ?_⟩
  cases e with
  | returned v =>
   obtain ⟨p1, p2, p3⟩ := hR
   refine zo (x := (0 : Int)) p3 (by rfl) (.inr (.inl ⟨hmost, by rw [hm]; omega, Si, _, ks, _, by rw [hm]; exact hP, s2, s3, rfl, F9, ?_, fun k hk => ?_, ?_⟩))
   ·rw [if_pos rfl] at p1
    exact p1.zeJ
   ·rcases hF9w k hk with e | e
    ·exact .inl e
    ·exact .inr (Nat.le_trans he5'.size e)
   ·have o10 : Only F w (w9.setCell ⟨r2, 0, none⟩ (.int .i64 0)) := Only.trans o9 oc (fun j hj => .inr (by have : j = r2 := hj; omega))
    exact Only.trans o10 p2 (fun j hj => by
     rcases hF9w j hj with e | e
     ·exact .inl e
     ·exact .inr (Nat.le_trans he5'.size e))
  | panicked c => exact hR.elim
  | outgrown => exact hR.elim
 ·have e9 := zgK (S := Si) (R := R) (p := ((6 : UInt8), ks, mkB (le 4 bs.size))) hP.good (show 3 <= (6 : UInt8).toNat by decide) (by show ((ks.length : Nat) : Int) <= _; rw [hr0i.2.1]; omega) (by show ((mkB (le 4 bs.size)).size : Int) <= Si.room ((ks.length : Nat) : Int); rw [hkr, hd4]; omega) (by omega)
  rw [e9] at hAt9 ⊢
  refine ⟨((0 : Int), (9 : Int), ()), rfl, ?_⟩
  exact fail i hik hP hAt9 hF9w o9 (by omega) k19 k29 k89 ho9.sl hA9
end V
/- Contracts of the package tree: used, part, put. -/
namespace V
open Go Go.Proofs Go.RowKit Crc
variable {w w' : World} {b db : Nat} {S : Spa} {F : Nat -> Prop} {R H : List Nat} {M : Option (List Nat)}
theorem zmz.good {S S' : Spa} {p : Page} {R H : List Nat} {M : Option (List Nat)} {n : Nat} {e : Int} (h : zmz S S' p R H M n e) (hd : (p.2.2.size : Int) <= S.room p.2.1.length) (hf : S.sup.pages.length < S.zV) : e = 0 /\ vz S S' p n /\ Great S' (n :: R) H M /\ ∀ q ∈ S'.dev.pen, q ∈ S.dev.pen \/ q.1 = (n : Int) := by
 rcases h with ⟨_, _, _, h⟩ | ⟨_, _, _, h⟩ | h
 ·omega
 ·omega
 ·exact ⟨h.1, h.2.1, h.2.2.1, h.2.2.2.1⟩
theorem zhO (h : ya w b db S F) {n : Nat} (hg : Great S R H M) (hu : zI S.sup.pages S.now n = true) (h6 : S.now.getD n 0 < 65535) :
  Calls Tryz.prog 134 #[.pointer (some ⟨b, 0, none⟩), .int .u64 (n : Int)] w (Ret fun v w' => v = .bool true /\ yx w b db F S w') := by
 have hnN := hg.good.well.lt hu
 have hN := hg.good.dims.n
 have hw : IntKind.wrap .u32 (n : Int) = (n : Int) := by rw [wrap_u32]; omega
 apply zlh
 unfold S134
 refine zc (decide_eq_false (by omega)) ?_
 rw [hw]
 refine zb (zmA h hg hu h6) ?_
 rintro _ w1 ⟨rfl, hg1, F1, h1, hF1, hO1⟩
 refine ⟨_, rfl, zf (by rfl) ?_⟩
 refine zb (zos h1 hg1) ?_
 rintro _ w2 ⟨rfl, c', hg2, hst, hD, hle⟩
 refine ⟨_, rfl, rfl, ?_⟩
 have hlen : n < S.now.length := by rw [hg.good.well.len]; exact hnN
 obtain ⟨u1, u2, u3⟩ := zN.1 hu
 have e1 : (S.now.set n (S.now.getD n 0 + 1)).getD n 0 = S.now.getD n 0 + 1 := by rw [ym, if_pos ⟨rfl, hlen⟩]
 have hu1 : zI S.sup.pages (S.now.set n (S.now.getD n 0 + 1)) n = true := zN.2 ⟨u1, u2, by rw [e1]; omega⟩
 have ec : c' = S.now := by
  have hz : atE (S.now.set n (S.now.getD n 0 + 1)) n = 0 := zbb hg1.good.well hu1
  rcases hD.inv with ⟨_, a1, _⟩ | ⟨_, _, a1⟩ | ⟨a1, _⟩ | ⟨a1, _⟩ | ⟨a1, _⟩
  ·exact absurd hz a1
  ·have a2 : xg (S.now.set n (S.now.getD n 0 + 1)) n = S.now := by
    rw [zca hg1.good.well hu1, List.set_set]
    refine qs (by rw [List.length_set]) (fun k => ?_)
    rw [ym, e1]
    split
    ·rename_i hh
     rw [<- hh.1]; omega
    ·rfl
   rw [a2] at a1
   cases a1
   rfl
  ·have : (S.now.set n (S.now.getD n 0 + 1)).getD n 0 = 1 := a1
   omega
  ·have : (S.now.set n (S.now.getD n 0 + 1)).getD n 0 = 1 := a1
   omega
  ·have : (S.now.set n (S.now.getD n 0 + 1)).getD n 0 = 1 := a1
   omega
 subst ec
 exact yx.trans hO1 hF1 hst
theorem zc2 {t : UInt8} (ht : t ≠ 4) {x y z : SLC} {i j : Nat} (hij : i <= j) (hx : j <= x.2.2) (hz : j <= z.2.2) :
  Calls Tryz.prog 206 #[.agg (ndV t x y z).toArray, .int .i64 (i : Int), .int .i64 (j : Int)] w (Ret fun v w' => v = .agg (ndV t (zm x.1 i x.2.2 1, j - i, x.2.2 - i) (none, 0, 0) (zm z.1 i z.2.2 1, j - i, z.2.2 - i)).toArray /\ Ext w w') := by
 apply zlT
 unfold S206
 refine zr fun r1 w1 hb1 he1 hr1 hz1 => ?_
 refine zr fun r2 w2 hb2 he2 hr2 hz2 => ?_
 refine zK fun w3 he3 hz3 hh3 => ?_
 have hb1 : Blk w3 r1 (ndV t x y z) 215 := (hb1.ext he2).ext he3
 have hb2 := hb2.ext he3
 refine zE ((t.toNat : Nat) : Int) hb1 (by rfl) ?_
 refine zn 1 x hb1 (by rfl) ?_
 refine zJ ⟨by omega, by omega, by omega⟩ ?_
 refine zr fun r5 w4 hb5 he4 hr5 hz5 => ?_
 have hb1 := hb1.ext he4
 have hb2 := hb2.ext he4
 have he := ((he1.trans he2).trans he3).trans he4
 refine jo (yK hb1 rfl) (z6 hb1 rfl) ?_
 rw [Int.toNat_natCast, Int.toNat_natCast]
 refine refill (vs := ndV t (zm x.1 i x.2.2 1, j - i, x.2.2 - i) (none, 0, 0) (none, 0, 0)) hb5 (by rfl) (qZ _ _ _ _) (by rfl) ?_
 intro w5 hb5 hx5 hk5 hz6
 have hl1 := hb1.lt
 have hl2 := hb2.lt
 have hs4 := he4.size
 have hs3 := he3.size
 have he5 : Ext w w5 := hx5 w he (by omega)
 have hb1 : Blk w5 r1 (ndV t x y z) 215 := (hk5 r1 (by omega)).trans hb1
 have hb2 := show Blk w5 r2 _ _ from (hk5 r2 (by omega)).trans hb2
 refine zW (ls := qO) (ndT t x y z) hb1 (by rfl) ?_
 refine zb zal ?_
 rintro _ w6 ⟨rfl, he6⟩
 refine ⟨_, rfl, ?_⟩
 refine zf (bne_iff_ne.2 (fun e => ht (UInt8.toNat_inj.1 (by show _ = 4; omega)))) ?_
 have hb1 := hb1.ext he6
 have hb2 := hb2.ext he6
 have hb5 := hb5.ext he6
 have he6' := he5.trans he6
 refine zn 3 z hb1 (by rfl) ?_
 refine zJ ⟨by omega, by omega, by omega⟩ ?_
 refine stE (o := 3) hb5 (by rw [zz]) (by show 3 < 4; omega) ?_
 intro w7 hb7 o7
 have hb7 : Blk w7 r5 (ndV t (zm x.1 i x.2.2 1, j - i, x.2.2 - i) (none, 0, 0) (zm z.1 i z.2.2 1, j - i, z.2.2 - i)) 215 := hb7
 have he7 : Ext w w7 := Only.ext he6' o7 (fun k hk => by have : k = r5 := hk; omega)
 refine zW (ls := qO) (ndT t (zm x.1 i x.2.2 1, j - i, x.2.2 - i) (none, 0, 0) (zm z.1 i z.2.2 1, j - i, z.2.2 - i)) hb7 (by rfl) ?_
 have hb2 := hb2.only o7 (by omega)
 refine refill (vs := ndV t (zm x.1 i x.2.2 1, j - i, x.2.2 - i) (none, 0, 0) (zm z.1 i z.2.2 1, j - i, z.2.2 - i)) hb2 (by rfl) (qZ _ _ _ _) (by rfl) ?_
 intro w8 hb8 hx8 hk8 hz8
 refine zW (ls := qO) (ndT t (zm x.1 i x.2.2 1, j - i, x.2.2 - i) (none, 0, 0) (zm z.1 i z.2.2 1, j - i, z.2.2 - i)) hb8 (by rfl) ?_
 exact ⟨rfl, hx8 w he7 (by omega)⟩
theorem zot {S : Spa} (h : uG S) {k : Nat} (hk : 4 * k <= S.r0) : S.room k = (S.r0 : Int) - 4 * k := by
 obtain ⟨h0, h1, h2, h3⟩ := xN h
 have : zC S.sup.size - 2 = (S.r0 : Int) := by rw [h.room]; omega
 unfold Spa.room
 rw [this, if_neg (by omega)]
theorem zjr (a b : List Nat) : k8B (a ++ b) = k8B a ++ k8B b := by
 unfold k8B
 rw [List.flatMap_append]
theorem zjs (h : ya w b db S F) {t : UInt8} (ht : t ≠ 4) (ht3 : 3 <= t.toNat) {ks vs : List Nat} {x y z : SLC} (hg : Great S (vs ++ R) H M) (hpen : S.dev.pen.length <= 900000) (hkx : Sli (zu .u64) w x.1 x.2.1 ks) (hvz : Sli (zu .u32) w z.1 z.2.1 vs) (hA : ∀ a, z.1 = some a -> ¬ F a.block)
  (hlen : ks.length = vs.length) (h64 : ∀ k ∈ ks, k < 18446744073709551616) (hfit : 12 * ks.length <= S.r0) (hf : S.sup.pages.length < S.zV) :
  Calls Tryz.prog 207 #[.agg (ndV t x y z).toArray, .pointer (some ⟨b, 0, none⟩)] w (Ret fun v w' => ∃ (S' : Spa) (k : Nat), v = .tuple #[.int .u32 (k : Int), .int .i64 0] /\ vz S S' (t, vs, mkB (k8B ks)) k /\ Great S' (k :: R) H M /\ yx w b db F S' w') := by
 obtain ⟨q0, q1, q2, q3⟩ := xN hg.good.dims
 have hxl := hkx.len
 have hzl := hvz.len
 apply zlU
 unfold S207
 refine zr fun r1 w1 hb1 he1 hr1 hz1 => ?_
 have hb1 : Blk w1 r1 (ndV t x y z) 215 := hb1
 refine zn 1 x hb1 (by rfl) ?_
 dsimp only
 refine zx (fun q w' => ∃ (i : Nat) (A : Option Addr) (c : Nat), i <= ks.length /\ q = ((A, 8 * i, c), (i : Int), ()) /\ Ext w w' /\ Ext w1 w' /\ Own 5 w' w1.heap.size A (8 * i) c (bV (k8B (ks.take i)))) (fun q => (ks.length - q.2.1).toNat) ⟨0, none, 0, by omega, rfl, he1, Ext.refl _, Own.nil _ _ _⟩ ?_
 rintro _ w2 ⟨i, A, c, hi, rfl, he2, he12, ho⟩
 dsimp only
 have hb2 := hb1.ext he12
 by_cases hlt : i < ks.length
 ·refine zf (decide_eq_true (by omega)) ?_
  refine zR (hkx.ext he2) (by omega) (by omega) ?_
  rw [Int.toNat_natCast]
  have hk : ks.getD i 0 < 18446744073709551616 := by
   rw [List.getD_eq_getElem?_getD, List.getElem?_eq_getElem hlt]
   exact h64 _ (List.getElem_mem _)
  refine zb (xe (k := 8) ho he12.size (by omega) hk (by omega) (by omega)) ?_
  rintro _ w3 ⟨u, rfl, ho3, hg3⟩
  refine ⟨u, rfl, ?_⟩
  have hb3 : Blk w3 r1 (ndV t x y z) 215 := hb2.grown hg3.grown (fun hh => by have := ho.row' _ hh.symm; have := hb1.lt; omega)
  have he3 : Ext w w3 := he2.grown hg3.grown (fun j hj => by have := ho.row' _ hj; omega)
  have he13 : Ext w1 w3 := he12.grown hg3.grown (fun j hj => ho.row' _ hj)
  refine zW (ls := qO) (ndT t x y z) hb3 (by rfl) ?_
  refine zb zal ?_
  rintro _ w4 ⟨rfl, he4⟩
  refine ⟨_, rfl, ?_⟩
  refine zc (by rw [show (((t.toNat : Nat) : Int) != 4) = true from bne_iff_ne.2 (fun e => ht (UInt8.toNat_inj.1 (by show _ = 4; omega)))]; rfl) ?_
  have hul : u.2.1 = 8 * (i + 1) := by
   have h1 := ho3.sl.blen
   rw [List.length_append, zv, vW, List.length_take] at h1
   omega
  obtain ⟨u1, u2, u3⟩ := u
  dsimp only at hul ho3 ⊢
  subst hul
  refine ⟨⟨i + 1, u1, u3, by omega, by rw [wrap_i64 (by omega) (by omega)]; rfl, he3.trans he4, he13.trans he4, ?_⟩, by rw [wrap_i64 (by omega) (by omega)]; omega⟩
  have e : k8B (ks.take (i + 1)) = k8B (ks.take i) ++ le 8 (ks.getD i 0) := by
   rw [List.take_succ_eq_append_getElem hlt, zjr, List.getD_eq_getElem?_getD, List.getElem?_eq_getElem hlt]
   simp [k8B]
  rw [e]
  exact ho3.ext he4
 ·obtain rfl : i = ks.length := by omega
  refine zc (decide_eq_false (by omega)) ?_
  rw [List.take_of_length_le (by omega)] at ho
  refine zE ((t.toNat : Nat) : Int) hb2 (by rfl) ?_
  refine zn 3 z hb2 (by rfl) ?_
  refine qI (e := 5) (by kernel_rfl) (by kernel_rfl) (by kernel_rfl) ho.sl ?_
  have hsz : (mkB (k8B ks)).size = 8 * ks.length := by rw [yg, xj, vW]
  refine zb (zo6 (p := (t, vs, mkB (k8B ks))) (h.ext he2) hg hpen (hvz.ext he2) hA ht3 (by show (vs.length : Int) <= _; rw [q0]; omega) (by show (mkB (k8B ks)).size <= _; omega)) ?_
  rintro _ w3 ⟨S', k, e, rfl, hR, hst⟩
  obtain ⟨rfl, g1, g2, _⟩ := hR.good (by show ((mkB (k8B ks)).size : Int) <= S.room vs.length; rw [zot hg.good.dims (by omega)]; omega) hf
  exact ⟨((k : Int), 0, ()), rfl, S', k, rfl, g1, g2, yx.trans (Only.zG he2) (fun k hk => .inl hk) hst⟩
end V
/- Contracts of the package tree: shut. -/
namespace V
open Go Go.Proofs Go.RowKit Crc
variable {w w' : World} {b db : Nat} {S : Spa} {F : Nat -> Prop} {R H : List Nat} {M : Option (List Nat)}
theorem zhP (h : ya w b db S F) (hd : uG S) {t : UInt8} (ht : t ≠ 4) : Calls Tryz.prog 205 #[.pointer (some ⟨b, 0, none⟩), .int .u8 (t.toNat : Int)] w (Ret fun v w' => v = .int .i64 ((S.r0 / 12 : Nat) : Int) /\ Ext w w') := by
 obtain ⟨q0, q1, q2, q3⟩ := xN hd
 apply zlS
 unfold S205
 refine zc (beq_eq_false_iff_ne.2 (fun e => ht (UInt8.toNat_inj.1 (by show _ = 4; omega)))) ?_
 obtain ⟨Fd, x, hb, hr, nb, nr, m, h'⟩ := h
 refine zb (qL h' (k := 0) (by omega) (by omega)) ?_
 rintro _ w1 ⟨rfl, he⟩
 refine ⟨_, rfl, ?_, he⟩
 rw [q0, show Int.tdiv ((S.r0 : Nat) : Int) 12 = ((S.r0 / 12 : Nat) : Int) from rfl, wrap_i64 (by omega) (by omega)]
theorem Owni.ne {α β : Type} {E : Enc α} {E' : Enc β} {e e' : TypeId} {w : World} {B B' n n' c c' : Nat} {A A' : Option Addr} {xs : List α} {ys : List β} (h : Owni E e w B A n c xs) (h' : Owni E' e' w B' A' n' c' ys) (he : e ≠ e') : ∀ j, orow A = some j -> orow A' ≠ some j := by
 intro j hj hj'
 rcases h.2 with ⟨hv, _⟩ | ⟨g, cap, cur, hv, _, hg, _⟩
 ·injection hv with hv; subst hv; cases hj
 ·rcases h'.2 with ⟨hv', _⟩ | ⟨g', cap', cur', hv', _, hg', _⟩
  ·injection hv' with hv'; subst hv'; cases hj'
  ·injection hv with hv
   injection hv' with hv'
   subst hv
   subst hv'
   have e1 : g = j := Option.some.inj hj
   have e2 : g' = j := Option.some.inj hj'
   subst e1
   subst e2
   rw [hg] at hg'
   injection hg' with hg'
   injection hg' with _ e3 _
   exact he e3
def lo (n N i : Nat) : Nat := i * n / N
def prt (n N i : Nat) (l : List Nat) : List Nat := (l.drop (lo n N i)).take (lo n N (i + 1) - lo n N i)
theorem zim (n N : Nat) : lo n N 0 = 0 := by simp [lo]
theorem zkp {n N : Nat} (hN : 1 <= N) : lo n N N = n := by unfold lo; exact Nat.mul_div_cancel_left n (by omega)
theorem zgO {n N i fit : Nat} (hf : 2 <= fit) (hN1 : 1 <= N) (hN2 : N <= 2) (hNn : N <= n) (hn : n <= N * fit) (hi : i < N) : lo n N i < lo n N (i + 1) /\ lo n N (i + 1) <= n /\ lo n N (i + 1) - lo n N i <= fit := by
 unfold lo
 rcases (show N = 1 \/ N = 2 by omega) with rfl | rfl
 ·obtain rfl : i = 0 := by omega
  simp
  omega
 ·rcases (show i = 0 \/ i = 1 by omega) with rfl | rfl <;> simp <;> omega
theorem zkq {n N i : Nat} {l : List Nat} (h : lo n N i <= lo n N (i + 1)) : prt n N i l ++ l.drop (lo n N (i + 1)) = l.drop (lo n N i) := by
 unfold prt
 conv => rhs; rw [<- List.take_append_drop (lo n N (i + 1) - lo n N i) (l.drop (lo n N i))]
 rw [List.drop_drop, show lo n N i + (lo n N (i + 1) - lo n N i) = lo n N (i + 1) by omega]
theorem zkr {w : World} {r : Nat} {t : UInt8} {x y z : SLC} {ty : TypeId} (h : Blk w r (ndV t x y z) ty) : ∀ p ∈ [((aD r).add 0, Value.int .u8 (t.toNat : Int)), ((aD r).add 1, .slice x.1 x.2.1 x.2.2), ((aD r).add 2, .slice y.1 y.2.1 y.2.2), ((aD r).add 3, .slice z.1 z.2.1 z.2.2)], w.cell? p.1 = some p.2 := by
 intro p hp
 simp only [List.mem_cons, List.not_mem_nil, or_false] at hp
 rcases hp with rfl | rfl | rfl | rfl <;> simp only [zz, h.cell] <;> rfl
def zeg (S : Spa) (t : UInt8) (n N i : Nat) (ks vs ps : List Nat) : Prop := ∀ j, j < i -> S.page (ps.getD j 0) = ((t, prt n N j vs, mkB (k8B (prt n N j ks))), 0) /\ zI S.sup.pages S.now (ps.getD j 0) = true
theorem zfm {A : Option Addr} {l m z : Nat} {a : Addr} (h : zm A l m z = some a) : ∃ a0, A = some a0 /\ a.block = a0.block := by
 unfold zm at h
 split at h
 ·exact ⟨a, h, rfl⟩
 ·cases A with
  | none => cases h
  | some a0 =>
   injection h with h
   refine ⟨a0, rfl, ?_⟩
   rw [<- h]
   show (a0.add (l * z)).block = a0.block
   unfold Addr.add; split <;> rfl
theorem kV {n N i : Nat} {l : List Nat} (hl : l.length = n) (h2 : lo n N (i + 1) <= n) (h1 : lo n N i <= lo n N (i + 1)) : (prt n N i l).length = lo n N (i + 1) - lo n N i := by
 unfold prt
 rw [List.length_take, List.length_drop]; omega
theorem zin {n N i : Nat} {l : List Nat} : ∀ k ∈ prt n N i l, k ∈ l := fun k hk => List.mem_of_mem_drop (List.mem_of_mem_take hk)
theorem zou {n N i : Nat} {l : List Nat} (h : lo n N i < lo n N (i + 1)) : (prt n N i l).getD 0 0 = l.getD (lo n N i) 0 := by
 unfold prt
 rw [getD_take (by omega), vI, Nat.add_zero]
theorem Sli.prt {k : IntKind} {w : World} {x : SLC} {l : List Nat} {n N i : Nat} (h : Sli (zu k) w x.1 x.2.1 l) (hc : x.2.1 <= x.2.2) (hn : l.length = n) (h2 : lo n N (i + 1) <= n) (h1 : lo n N i < lo n N (i + 1)) : Sli (zu k) w (zm x.1 (lo n N i) x.2.2 1) (lo n N (i + 1) - lo n N i) (V.prt n N i l) := by
 have hl := h.len
 exact h.cut (l := lo n N i) (k := lo n N (i + 1) - lo n N i) (m := x.2.2) (z := 1) rfl (by omega) (by omega)
theorem zeg.next {S S' : Spa} {t : UInt8} {n N i k : Nat} {ks vs ps : List Nat} (h : zeg S t n N i ks vs ps) (hp : vz S S' (t, prt n N i vs, mkB (k8B (prt n N i ks))) k) (hg : Good S R) (hl : ps.length = i) : zeg S' t n N (i + 1) ks vs (ps ++ [k]) := by
 have hlen : k < S.now.length := by rw [hg.well.len]; exact hp.lt
 intro j hj
 by_cases e : j < i
 ·obtain ⟨h1, h2⟩ := h j e
  have e1 : (ps ++ [k]).getD j 0 = ps.getD j 0 := by rw [List.getD_eq_getElem?_getD, List.getElem?_append_left (by omega), <- List.getD_eq_getElem?_getD]
  rw [e1]
  obtain ⟨u1, u2, u3⟩ := zN.1 h2
  have hne : ps.getD j 0 ≠ k := fun e => by
   have := (zP.1 hp.free).1
   rw [<- e] at this
   omega
  refine ⟨(hp.other _ hne (hg.well.lt h2)).trans h1, ?_⟩
  rw [hp.sup]
  refine zN.2 ⟨u1, u2, ?_⟩
  rw [hp.now, ym, if_neg (fun e => hne e.1.symm)]
  exact u3
 ·obtain rfl : j = i := by omega
  have e1 : (ps ++ [k]).getD j 0 = k := by rw [List.getD_eq_getElem?_getD, List.getElem?_append_right (by omega), hl, Nat.sub_self]; rfl
  rw [e1, hp.sup]
  refine ⟨hp.page, zN.2 ⟨hp.two, hp.pgs, ?_⟩⟩
  rw [hp.now, ym, if_pos ⟨rfl, hlen⟩]
  omega
theorem zc3 (h : ya w b db S F) {t : UInt8} (ht : t ≠ 4) (ht3 : 3 <= t.toNat) {ks vs : List Nat} {x y z : SLC} {N : Nat} (hg : Great S (vs ++ R) H M) (hpen : S.dev.pen.length <= 800000) (hkx : Sli (zu .u64) w x.1 x.2.1 ks) (hxc : x.2.1 <= x.2.2) (hvz : Sli (zu .u32) w z.1 z.2.1 vs) (hzc : z.2.1 <= z.2.2)
  (hxF : ∀ a, x.1 = some a -> ¬ F a.block /\ a.block < w.heap.size) (hzF : ∀ a, z.1 = some a -> ¬ F a.block /\ a.block < w.heap.size)
  (hlen : ks.length = vs.length) (h64 : ∀ k ∈ ks, k < 18446744073709551616) (hN : N = (ks.length + S.r0 / 12 - 1) / (S.r0 / 12)) (hN1 : 1 <= N) (hN2 : N <= 2) (hNn : N <= ks.length) (hf : S.sup.pages.length + N <= S.zV) :
  Calls Tryz.prog 172 #[.agg (ndV t x y z).toArray, .pointer (some ⟨b, 0, none⟩)] w (Ret fun v w' => ∃ (S' : Spa) (F' : Nat -> Prop) (ps : List Nat) (A A2 : Option Addr) (c c2 : Nat), v = .tuple #[.slice A N c, .slice A2 N c2, .int .i64 0] /\ ps.length = N /\ Mk S S' ps /\ Great S' (ps ++ R) H M /\ zeg S' t ks.length N N ks vs ps /\
   ya w' b db S' F' /\ (∀ k, F' k -> F k \/ w.heap.size <= k) /\ Only F w w' /\ Owni (zu .u64) 42 w' w.heap.size A N c ((List.range N).map fun i => ks.getD (lo ks.length N i) 0) /\ Owni (zu .u32) 41 w' w.heap.size A2 N c2 ps /\ (∀ j, orow A = some j -> ¬ F' j) /\ (∀ j, orow A2 = some j -> ¬ F' j)) := by
 obtain ⟨q0, q1, q2, q3⟩ := xN hg.good.dims
 have hxl := hkx.len
 have hzl := hvz.len
 have hfit : 9 <= S.r0 / 12 /\ S.r0 / 12 <= 339 := by omega
 have hnN : ks.length <= N * (S.r0 / 12) := by
  subst hN
  have d1 := Nat.div_add_mod (ks.length + S.r0 / 12 - 1) (S.r0 / 12)
  have d2 := Nat.mod_lt (ks.length + S.r0 / 12 - 1) (show 0 < S.r0 / 12 by omega)
  rw [Nat.mul_comm] at d1
  omega
 have hn678 : ks.length <= 678 := by
  have : N * (S.r0 / 12) <= 2 * 339 := Nat.mul_le_mul hN2 hfit.2
  omega
 have hlo : ∀ i, i < N -> lo ks.length N i < lo ks.length N (i + 1) /\ lo ks.length N (i + 1) <= ks.length /\ lo ks.length N (i + 1) - lo ks.length N i <= S.r0 / 12 := fun i hi => zgO (by omega) hN1 hN2 hNn hnN hi
 apply zlE
 unfold S172
 refine zr fun r1 w1 hb1 he1 hr1 hz1 => ?_
 have hb1 : Blk w1 r1 (ndV t x y z) 215 := hb1
 refine zE ((t.toNat : Nat) : Int) hb1 (by rfl) ?_
 refine zb (zhP (h.ext he1) hg.good.dims ht) ?_
 rintro _ w2 ⟨rfl, he2⟩
 refine ⟨_, rfl, ?_⟩
 have he02 := he1.trans he2
 have hb2 := hb1.ext he2
 have hs1 := he1.size
 have hs2 := he2.size
 refine zc (decide_eq_false (by omega)) ?_
 refine zn 1 x hb2 (by rfl) ?_
 refine zJ (by omega) ?_
 have eN : IntKind.wrap .i64 (Int.tdiv (IntKind.wrap .i64 (IntKind.wrap .i64 (((x.2.1 : Nat) : Int) + ((S.r0 / 12 : Nat) : Int)) - 1)) ((S.r0 / 12 : Nat) : Int)) = (N : Int) := by
  rw [wrap_i64 (x := ((x.2.1 : Nat) : Int) + ((S.r0 / 12 : Nat) : Int)) (by omega) (by omega), wrap_i64 (x := ((x.2.1 : Nat) : Int) + ((S.r0 / 12 : Nat) : Int) - 1) (by omega) (by omega)]
  rw [show ((x.2.1 : Nat) : Int) + ((S.r0 / 12 : Nat) : Int) - 1 = ((ks.length + S.r0 / 12 - 1 : Nat) : Int) by omega, show Int.tdiv ((ks.length + S.r0 / 12 - 1 : Nat) : Int) ((S.r0 / 12 : Nat) : Int) = (((ks.length + S.r0 / 12 - 1) / (S.r0 / 12) : Nat) : Int) from rfl, <- hN, wrap_i64 (by omega) (by omega)]
 rw [eN]
 have hFlt := h.lt
 refine zx (fun q w' => ∃ (i : Nat) (Si : Spa) (Fi : Nat -> Prop) (ps : List Nat) (A A2 : Option Addr) (c c2 : Nat), i <= N /\ q = ((A, i, c), (A2, i, c2), (i : Int), ()) /\ ps.length = i /\ Mk S Si ps /\ Great Si (vs.drop (lo ks.length N i) ++ (ps ++ R)) H M /\ zeg Si t ks.length N i ks vs ps /\ ya w' b db Si Fi /\ (∀ k, Fi k -> F k \/ w2.heap.size <= k) /\ Only F w w' /\ w2.heap.size <= w'.heap.size /\ Blk w' r1 (ndV t x y z) 215 /\
   Owni (zu .u64) 42 w' w2.heap.size A i c ((List.range i).map fun i => ks.getD (lo ks.length N i) 0) /\ Owni (zu .u32) 41 w' w2.heap.size A2 i c2 ps /\ (∀ j, orow A = some j -> ¬ Fi j) /\ (∀ j, orow A2 = some j -> ¬ Fi j)) (fun q => (N - q.2.2.1).toNat)
  ⟨0, S, F, [], none, none, 0, 0, by omega, rfl, rfl, Mk.refl S, by rw [zim]; exact hg, fun j hj => by omega, h.ext he02, fun k hk => .inl hk, Only.zG he02, Nat.le_refl _, hb2, Owni.nil _ _ _, Owni.nil _ _ _, fun j hj => (by cases hj), fun j hj => (by cases hj)⟩ ?_
 rintro _ w3 ⟨i, Si, Fi, ps, A, A2, c, c2, hi, rfl, hpl, hMk, hGi, hPg, hSi, hFi, hO, hs3, hb3, hoA, hoB, hAF, hBF⟩
 dsimp only
 by_cases hlt : i < N
 ·refine zf (decide_eq_true (by omega)) ?_
  obtain ⟨l1, l2, l3⟩ := hlo i hlt
  refine zK fun w4 he4 hz4 hh4 => ?_
  have hb4 := hb3.ext he4
  refine zW (ls := qO) (ndT t x y z) hb4 (by rfl) ?_
  refine zn 1 x hb4 (by rfl) (zJ (by omega) ?_)
  refine zn 1 x hb4 (by rfl) (zJ (by omega) ?_)
  have hiN : i * ks.length <= 1356 := by
   have : i * ks.length <= 2 * 678 := Nat.mul_le_mul (by omega) hn678
   omega
  have hiN2 : (i + 1) * ks.length <= 1356 := by
   have : (i + 1) * ks.length <= 2 * 678 := Nat.mul_le_mul (by omega) hn678
   omega
  have ew : ∀ j, j * ks.length <= 1356 -> IntKind.wrap .i64 (Int.tdiv (IntKind.wrap .i64 ((j : Int) * ((x.2.1 : Nat) : Int))) (N : Int)) = ((lo ks.length N j : Nat) : Int) := fun j hj => by
   rw [<- hxl, <- Int.natCast_mul, wrap_i64 (x := ((j * ks.length : Nat) : Int)) (by omega) (by omega), show Int.tdiv ((j * ks.length : Nat) : Int) (N : Int) = ((j * ks.length / N : Nat) : Int) from rfl]
   have : lo ks.length N j <= j * ks.length := Nat.div_le_self _ _
   show IntKind.wrap .i64 ((lo ks.length N j : Nat) : Int) = _
   exact wrap_i64 (by omega) (by omega)
  have ei : IntKind.wrap .i64 ((i : Int) + 1) = ((i + 1 : Nat) : Int) := by rw [wrap_i64 (by omega) (by omega)]; rfl
  rw [ei, show (ndT t x y z).2.1.2.1 = x.2.1 from rfl]
  rw [ew i hiN, ew (i + 1) hiN2]
  have hw4 := he4.size
  have hl4 := hb4.lt
  -- both orders come to the same
  refine ⟨?a, ?b⟩
  case' a =>
   refine zb (zc2 ht (x := x) (y := y) (z := z) (i := lo ks.length N i) (j := lo ks.length N (i + 1)) (by omega) (by omega) (by omega)) ?_
   rintro _ w5 ⟨rfl, he5⟩
   refine ⟨ndT t (zm x.1 (lo ks.length N i) x.2.2 1, lo ks.length N (i + 1) - lo ks.length N i, x.2.2 - lo ks.length N i) (none, 0, 0) (zm z.1 (lo ks.length N i) z.2.2 1, lo ks.length N (i + 1) - lo ks.length N i, z.2.2 - lo ks.length N i), rfl, ?_⟩
   refine zr fun rB wB hbB heB hrB hzB => ?_
   have heB := he5.trans heB
   have hb5 := hb4.ext heB
   refine zoT (yK hb5 rfl) (yK hb5 rfl) (zkr hb5) ?_
   have hrB : w4.heap.size <= rB := by have := he5.size; omega
  case' b =>
   refine zr fun rB wB' hbB heB' hrB hzB => ?_
   have hb5 := hb4.ext heB'
   refine zoT (yK hb5 rfl) (yK hb5 rfl) (zkr hb5) ?_
   refine zb (zc2 ht (x := x) (y := y) (z := z) (i := lo ks.length N i) (j := lo ks.length N (i + 1)) (by omega) (by omega) (by omega)) ?_
   rintro _ wB ⟨rfl, he5⟩
   refine ⟨ndT t (zm x.1 (lo ks.length N i) x.2.2 1, lo ks.length N (i + 1) - lo ks.length N i, x.2.2 - lo ks.length N i) (none, 0, 0) (zm z.1 (lo ks.length N i) z.2.2 1, lo ks.length N (i + 1) - lo ks.length N i, z.2.2 - lo ks.length N i), rfl, ?_⟩
   have heB := heB'.trans he5
   have hb5 := hb4.ext heB
   have hbB := hbB.ext he5
   have hrB : w4.heap.size <= rB := by omega
  all_goals
   refine refill (vs := ndV t (zm x.1 (lo ks.length N i) x.2.2 1, lo ks.length N (i + 1) - lo ks.length N i, x.2.2 - lo ks.length N i) (none, 0, 0) (zm z.1 (lo ks.length N i) z.2.2 1, lo ks.length N (i + 1) - lo ks.length N i, z.2.2 - lo ks.length N i)) hbB (by rfl) (qZ _ _ _ _) (by rfl) ?_
   intro w6 hb6 hx6 hk6 hz6
   have he46 : Ext w4 w6 := hx6 w4 heB hrB
   have he36 := he4.trans he46
   have hs46 := he46.size
   have hS6 := hSi.ext he36
   have hSlt := hSi.lt
   have o06 : Only F w w6 := Only.trans hO (Only.zG (F := F) he36) (fun j hj => .inl hj)
   refine zW (ls := qO) (ndT t (zm x.1 (lo ks.length N i) x.2.2 1, lo ks.length N (i + 1) - lo ks.length N i, x.2.2 - lo ks.length N i) (none, 0, 0) (zm z.1 (lo ks.length N i) z.2.2 1, lo ks.length N (i + 1) - lo ks.length N i, z.2.2 - lo ks.length N i)) hb6 (by rfl) ?_
   have hk6 : Sli (zu .u64) w6 (zm x.1 (lo ks.length N i) x.2.2 1) (lo ks.length N (i + 1) - lo ks.length N i) (prt ks.length N i ks) := (hkx.only o06 (fun a ha => (hxF a ha).1)).prt hxc rfl l2 l1
   have hv6 : Sli (zu .u32) w6 (zm z.1 (lo ks.length N i) z.2.2 1) (lo ks.length N (i + 1) - lo ks.length N i) (prt ks.length N i vs) := (hvz.only o06 (fun a ha => (hzF a ha).1)).prt hzc hlen.symm l2 l1
   have hnFi : ∀ j, ¬ F j -> j < w2.heap.size -> ¬ Fi j := fun j h1 h2 hf => by
    rcases hFi j hf with e | e
    ·exact h1 e
    ·omega
   have hsp := hMk.sup
   have hfr := hMk.free
   have hr0 := hMk.r0
   have hpn := hMk.pen
   have hGi' : Great Si (prt ks.length N i vs ++ (vs.drop (lo ks.length N (i + 1)) ++ (ps ++ R))) H M := by
    rw [<- List.append_assoc, zkq (Nat.le_of_lt l1)]
    exact hGi
   have hpll := kV (l := ks) (N := N) (i := i) rfl l2 (Nat.le_of_lt l1)
   have hpll2 := kV (l := vs) (N := N) (i := i) hlen.symm l2 (Nat.le_of_lt l1)
   refine zb (zjs hS6 ht ht3 hGi' (by omega) hk6 hv6 (fun a ha => ?_) (by rw [hpll, hpll2]) (fun k hk => h64 k (zin k hk)) (by rw [hpll, hr0]; omega) (by rw [hsp]; omega)) ?_
   ·obtain ⟨a0, h1, h2⟩ := zfm ha
    have := hzF a0 h1
    rw [h2]
    exact hnFi _ this.1 (by omega)
   rintro _ w7 ⟨S', k, rfl, hP, hG7, F7, hS7, hF7, hO7⟩
   refine ⟨((k : Int), 0, ()), rfl, zc (by rfl) ?_⟩
   have hs67 := hO7.2.2.2.1
   have hb7 := hb6.only hO7 (fun hf => by have := hSlt _ hf; omega)
   have hrn : ∀ a, zm x.1 (lo ks.length N i) x.2.2 1 = some a -> ¬ Fi a.block := fun a ha => by
    obtain ⟨a0, h1, h2⟩ := zfm ha
    have := hxF a0 h1
    rw [h2]
    exact hnFi _ this.1 (by omega)
   refine zn 1 ((zm x.1 (lo ks.length N i) x.2.2 1, lo ks.length N (i + 1) - lo ks.length N i, x.2.2 - lo ks.length N i) : SLC) hb7 (by rfl) ?_
   refine zR (hk6.only hO7 hrn) (by omega) (by dsimp only; omega) ?_
   rw [show Int.toNat 0 = 0 from rfl, zou l1]
   have hA7 := (hoA.ext he36).only hO7 hAF
   have hB7 := (hoB.ext he36).only hO7 hBF
   refine yZ (E := zu .u64) (ys := [ks.getD (lo ks.length N i) 0]) (by rfl) rfl kA hA7 (by omega) (by omega) (by omega) ?_
   intro A3 c3 w8 hA8 hg8
   have hs78 := hg8.grown.size
   have hB8 := hB7.grown hg8.grown (fun j hj => hA7.ne hB7 (by decide) j hj)
   refine yZ (E := zu .u32) (ys := [k]) (by rfl) rfl jD hB8 (by omega) (by omega) (by omega) ?_
   intro A4 c4 w9 hB9 hg9
   have hs89 := hg9.grown.size
   have hA9 := hA8.grown hg9.grown (fun j hj => hB8.ne hA8 (by decide) j hj)
   have hrA : ∀ j, orow A = some j -> ¬ F7 j := fun j hj hf => by
    have := hoA.yc j hj
    rcases hF7 j hf with e | e
    ·exact hAF j hj e
    ·omega
   have hrB' : ∀ j, orow A2 = some j -> ¬ F7 j := fun j hj hf => by
    have := hoB.yc j hj
    rcases hF7 j hf with e | e
    ·exact hBF j hj e
    ·omega
   have h7lt := hS7.lt
   have o79 : Only (fun j => orow A = some j \/ orow A2 = some j) w7 w9 := Only.trans (Only.z7 hg8.grown (fun j hj => .inl (.inl hj))) (Only.z7 (F := fun j => orow A2 = some j) hg9.grown (fun j hj => .inl hj)) (fun j hj => .inl (.inr hj))
   have hF72 : ∀ k, F7 k -> F k \/ w2.heap.size <= k := fun k hk => by
    rcases hF7 k hk with e | e
    ·exact hFi k e
    ·exact .inr (by omega)
   have hF2w : ∀ k, Fi k -> F k \/ w.heap.size <= k := fun k hk => by
    rcases hFi k hk with e | e
    ·exact .inl e
    ·exact .inr (by omega)
   have hO9 : Only F w w9 := Only.trans (Only.trans o06 hO7 hF2w) o79 (fun j hj => .inr (by
    rcases hj with e | e
    ·have := hoA.row j e; omega
    ·have := hoB.row j e; omega))
   have hb9 : Blk w9 r1 (ndV t x y z) 215 := ((hb3.ext he36).only hO7 (hnFi _ (fun hf => by have := hFlt _ hf; omega) (by have := hb2.lt; omega))).only o79 (fun hj => by
    rcases hj with e | e
    ·have := hoA.row _ e; have := hb2.lt; omega
    ·have := hoB.row _ e; have := hb2.lt; omega)
   refine ⟨⟨i + 1, S', F7, ps ++ [k], A3, A4, c3, c4, by omega, rfl, by rw [List.length_append, hpl]; rfl, hMk.trans (hP.mk_ hGi.good.well.len), ?_, hPg.next hP hGi.good hpl, hS7.only o79 (fun j hj e => by
    rcases e with e | e
    ·exact hrA j e hj
    ·exact hrB' j e hj), hF72, hO9, by omega, hb9, ?_, hB9, fun j hj hf => ?_, fun j hj hf => ?_⟩, by omega⟩
   ·refine hG7.perm ?_
    rw [show vs.drop (lo ks.length N (i + 1)) ++ ((ps ++ [k]) ++ R) = (vs.drop (lo ks.length N (i + 1)) ++ ps) ++ k :: R by simp, <- List.append_assoc (vs.drop (lo ks.length N (i + 1)))]
    exact List.perm_middle.symm
   ·rw [List.range_succ, List.map_append]
    exact hA9
   ·rcases hg8.next j hj with e | e
    ·exact hrA j e hf
    ·have := h7lt j hf; omega
   ·rcases hg9.next j hj with e | e
    ·exact hrB' j e hf
    ·have := h7lt j hf; omega
 ·obtain rfl : i = N := by omega
  refine zc (decide_eq_false (by omega)) ?_
  rw [zkp hN1, List.drop_of_length_le (by omega)] at hGi
  refine ⟨Si, Fi, ps, A, A2, c, c2, rfl, hpl, hMk, hGi, hPg, hSi, fun k hk => ?_, hO, hoA.lower (by omega), hoB.lower (by omega), hAF, hBF⟩
  rcases hFi k hk with e | e
  ·exact .inl e
  ·exact .inr (by omega)
end V
/- Contracts of the package tree: root, Build. -/
namespace V
open Go Go.Proofs Go.RowKit Crc
variable {w w' : World} {b db : Nat} {S : Spa} {F : Nat -> Prop} {R H : List Nat} {M : Option (List Nat)}
theorem zgP {x y z : SLC} {k : Nat} {deep : Nat} (hx : x.2.1 = 1) (hz : Sli (zu .u32) w z.1 z.2.1 [k]) : Calls Tryz.prog 135 #[.agg (ndV 3 x y z).toArray, .pointer (some ⟨b, 0, none⟩), .int .i64 (deep : Int)] w (Ret fun v w' => v = .tuple #[.int .u32 (k : Int), .int .i64 0] /\ Ext w w') := by
 have hzl : 1 = z.2.1 := hz.len
 apply zdk
 unfold S135
 refine zr fun r1 w1 hb1 he1 hr1 hz1 => ?_
 have hb1 : Blk w1 r1 (ndV 3 x y z) 215 := hb1
 refine yB (fun _ _ => False) (fun _ _ h => h.elim) (fun J hJ => ?_)
 refine zn 1 x hb1 (by rfl) ?_
 refine zc (beq_eq_false_iff_ne.2 (by omega)) ?_
 refine zW (ls := qO) (ndT 3 x y z) hb1 (by rfl) ?_
 refine zb ql ?_
 rintro _ w2 ⟨rfl, he2⟩
 refine ⟨_, rfl, zf (by rfl) ?_⟩
 have hb2 := hb1.ext he2
 have he := he1.trans he2
 refine zn 3 z hb2 (by rfl) (zf (beq_iff_eq.2 (by omega)) ?_)
 refine zn 3 z hb2 (by rfl) ?_
 refine zR (hz.ext he) (by omega) (by omega) ?_
 exact ⟨rfl, he⟩
structure zio (S S' : Spa) (n : Nat) (ks vs ls R H : List Nat) (M : Option (List Nat)) : Prop where
 made : Mk S S' ls
 great : Great S' (n :: R) H M
 tree : kU S' n ks vs
 few : ls.length <= 3
theorem zcB {n : Nat} {l : List Nat} (h : l.length = n) : prt n 1 0 l = l := by
 unfold prt lo
 subst h
 simp
theorem zov (h : ya w b db S F) {k0 k1 p q : Nat} {x y z : SLC} (hg : Great S ([p, q] ++ R) H M) (hpen : S.dev.pen.length <= 800000) (hkx : Sli (zu .u64) w x.1 x.2.1 [k0, k1]) (hxc : x.2.1 <= x.2.2) (hvz : Sli (zu .u32) w z.1 z.2.1 [p, q]) (hzc : z.2.1 <= z.2.2)
  (hxF : ∀ a, x.1 = some a -> ¬ F a.block /\ a.block < w.heap.size) (hzF : ∀ a, z.1 = some a -> ¬ F a.block /\ a.block < w.heap.size) (h0 : k0 < 18446744073709551616) (h1 : k1 < 18446744073709551616) (hf : S.sup.pages.length + 1 <= S.zV) :
  Calls Tryz.prog 135 #[.agg (ndV 3 x y z).toArray, .pointer (some ⟨b, 0, none⟩), .int .i64 2] w (Ret fun v w' => ∃ (S' : Spa) (n : Nat), v = .tuple #[.int .u32 (n : Int), .int .i64 0] /\ Mk S S' [n] /\ S'.page n = (((3 : UInt8), [p, q], mkB (k8B [k0, k1])), 0) /\ Great S' (n :: R) H M /\ yx w b db F S' w') := by
 obtain ⟨q0, q1, q2, q3⟩ := xN hg.good.dims
 have hxl : 2 = x.2.1 := hkx.len
 have hzl : 2 = z.2.1 := hvz.len
 apply zdk
 unfold S135
 refine zr fun r1 w1 hb1 he1 hr1 hz1 => ?_
 have hb1 : Blk w1 r1 (ndV 3 x y z) 215 := hb1
 refine yB (fun _ w' => Ext w1 w') ?_ (fun J hJ => ?_)
 rotate_left
 ·refine zn 1 x hb1 (by rfl) ?_
  refine zc (beq_eq_false_iff_ne.2 (by omega)) ?_
  refine zW (ls := qO) (ndT 3 x y z) hb1 (by rfl) ?_
  refine zb ql ?_
  rintro _ w2 ⟨rfl, he2⟩
  refine ⟨_, rfl, zf (by rfl) ?_⟩
  refine zn 3 z (hb1.ext he2) (by rfl) (zc (beq_eq_false_iff_ne.2 (by omega)) ?_)
  exact zc (by decide) (hJ _ _ he2)
 rintro _ w2 he2
 have he := he1.trans he2
 refine zW (ls := qO) (ndT 3 x y z) (hb1.ext he2) (by rfl) ?_
 have hs := he.size
 have hN : 1 = ([k0, k1].length + S.r0 / 12 - 1) / (S.r0 / 12) := by
  show 1 = (2 + S.r0 / 12 - 1) / (S.r0 / 12)
  refine (Nat.div_eq_of_lt_le ?_ ?_).symm <;> omega
 refine zb (zc3 (h.ext he) (t := 3) (by decide) (by decide) hg hpen (hkx.ext he) hxc (hvz.ext he) hzc (fun a ha => ⟨(hxF a ha).1, by have := (hxF a ha).2; omega⟩) (fun a ha => ⟨(hzF a ha).1, by have := (hzF a ha).2; omega⟩) rfl (fun k hk => ?_) hN (by omega) (by omega) (by simp) hf) ?_
 ·simp only [List.mem_cons, List.not_mem_nil, or_false] at hk
  rcases hk with rfl | rfl
  ·exact h0
  ·exact h1
 rintro _ w3 ⟨S', F', ps, A, A2, c, c2, rfl, hpl, hMk, hG, hPg, hS3, hF3, hO3, hoA, hoB, hAF, hBF⟩
 refine ⟨((A, 1, c), (A2, 1, c2), 0, ()), rfl, zc (by rfl) ?_⟩
 dsimp only
 rw [show IntKind.wrap .i64 (2 + 1) = ((3 : Nat) : Int) by decide]
 show ze _ _ [.agg (ndV 3 (A, 1, c) (none, 0, 0) (A2, 1, c2)).toArray, _, _] _ _ w3
 match ps, hpl with
 | [n], _ =>
  refine zb (zgP rfl (deep := 3) hoB.sl) ?_
  rintro _ w4 ⟨rfl, he4⟩
  refine ⟨((n : Int), 0, ()), rfl, S', n, rfl, hMk, ?_, hG, F', hS3.ext he4, fun k hk => ?_, ?_⟩
  ·have := (hPg 0 (by omega)).1
   rw [zcB (n := [k0, k1].length) (l := [p, q]) rfl, zcB (l := [k0, k1]) rfl] at this
   exact this
  ·rcases hF3 k hk with e | e
   ·exact .inl e
   ·exact .inr (by omega)
  ·exact Only.trans (Only.trans (Only.zG he) hO3 (fun j hj => .inl hj)) (Only.zG (F := F) he4) (fun j hj => .inl hj)
theorem zhQ (h : ya w b db S F) {ks vs : List Nat} {x y z : SLC} (hg : Great S (vs ++ R) H M) (hpen : S.dev.pen.length <= 700000) (hkx : Sli (zu .u64) w x.1 x.2.1 ks) (hxc : x.2.1 <= x.2.2) (hvz : Sli (zu .u32) w z.1 z.2.1 vs) (hzc : z.2.1 <= z.2.2)
  (hxF : ∀ a, x.1 = some a -> ¬ F a.block /\ a.block < w.heap.size) (hzF : ∀ a, z.1 = some a -> ¬ F a.block /\ a.block < w.heap.size)
  (hlen : ks.length = vs.length) (h64 : ∀ k ∈ ks, k < 18446744073709551616) (h1 : 1 <= ks.length) (h2 : ks.length <= 2 * (S.r0 / 12)) (hrise : xE ks = true) (hf : S.sup.pages.length + 3 <= S.zV) :
  Calls Tryz.prog 135 #[.agg (ndV 5 x y z).toArray, .pointer (some ⟨b, 0, none⟩), .int .i64 1] w (Ret fun v w' => ∃ (S' : Spa) (n : Nat) (ls : List Nat), v = .tuple #[.int .u32 (n : Int), .int .i64 0] /\ zio S S' n ks vs ls R H M /\ yx w b db F S' w') := by
 obtain ⟨q0, q1, q2, q3⟩ := xN hg.good.dims
 have hxl := hkx.len
 have hzl := hvz.len
 have hfit : 9 <= S.r0 / 12 /\ S.r0 / 12 <= 339 := by omega
 generalize hft : S.r0 / 12 = fit at *
 obtain ⟨N, hN⟩ : ∃ N, N = (ks.length + fit - 1) / fit := ⟨_, rfl⟩
 have hN1 : 1 <= N := by rw [hN, Nat.le_div_iff_mul_le (by omega)]; omega
 have hN2 : N <= 2 := by
  rw [hN]
  refine Nat.le_of_lt_succ ((Nat.div_lt_iff_lt_mul (by omega)).2 ?_)
  show _ < 3 * fit
  omega
 have hNn : N <= ks.length := by
  rw [hN]
  refine Nat.le_of_lt_succ ((Nat.div_lt_iff_lt_mul (by omega)).2 ?_)
  have : ks.length * 1 <= ks.length * fit := Nat.mul_le_mul_left _ (by omega)
  rw [Nat.succ_mul]
  omega
 apply zdk
 unfold S135
 refine zr fun r1 w1 hb1 he1 hr1 hz1 => ?_
 have hb1 : Blk w1 r1 (ndV 5 x y z) 215 := hb1
 refine yB (fun _ w' => Ext w1 w') ?_ (fun J hJ => ?_)
 rotate_left
 ·refine zn 1 x hb1 (by rfl) ?_
  refine zc (beq_eq_false_iff_ne.2 (by omega)) ?_
  refine zW (ls := qO) (ndT 5 x y z) hb1 (by rfl) ?_
  refine zb ql ?_
  rintro _ w2 ⟨rfl, he2⟩
  refine ⟨_, rfl, zc (by rfl) ?_⟩
  exact zc (by decide) (hJ _ _ he2)
 rintro _ w2 he2
 have he := he1.trans he2
 refine zW (ls := qO) (ndT 5 x y z) (hb1.ext he2) (by rfl) ?_
 have hs := he.size
 refine zb (zc3 (h.ext he) (t := 5) (by decide) (by decide) hg (by omega) (hkx.ext he) hxc (hvz.ext he) hzc (fun a ha => ⟨(hxF a ha).1, by have := (hxF a ha).2; omega⟩) (fun a ha => ⟨(hzF a ha).1, by have := (hzF a ha).2; omega⟩) hlen h64 (by rw [hft]; exact hN) hN1 hN2 hNn (by omega)) ?_
 rintro _ w3 ⟨S', F', ps, A, A2, c, c2, rfl, hpl, hMk, hG, hPg, hS3, hF3, hO3, hoA, hoB, hAF, hBF⟩
 refine ⟨((A, N, c), (A2, N, c2), 0, ()), rfl, zc (by rfl) ?_⟩
 dsimp only
 rw [show IntKind.wrap .i64 (1 + 1) = ((2 : Nat) : Int) by decide]
 have hst3 : yx w b db F S' w3 := ⟨F', hS3, fun k hk => by rcases hF3 k hk with e | e; exact .inl e; exact .inr (by omega), Only.trans (Only.zG he) hO3 (fun j hj => .inl hj)⟩
 show ze _ _ [.agg (ndV 3 (A, N, c) (none, 0, 0) (A2, N, c2)).toArray, _, _] _ _ w3
 have hpart : ∀ j, j < N -> jj S' (ps.getD j 0) (prt ks.length N j ks) (prt ks.length N j vs) := fun j hj => by
  obtain ⟨l1, l2, l3⟩ := zgO (fit := fit) (by omega) hN1 hN2 hNn (by
   rw [hN]
   have d1 := Nat.div_add_mod (ks.length + fit - 1) fit
   have d2 := Nat.mod_lt (ks.length + fit - 1) (show 0 < fit by omega)
   rw [Nat.mul_comm] at d1
   omega) hj
  refine ⟨(hPg j hj).1, ?_, ?_, zhK (zhL hrise _) _, fun k hk => h64 k (zin k hk)⟩
  ·rw [kV rfl l2 (Nat.le_of_lt l1), kV hlen.symm l2 (Nat.le_of_lt l1)]
  ·rw [kV rfl l2 (Nat.le_of_lt l1)]; omega
 rcases (show N = 1 \/ N = 2 by omega) with e | e
 ·clear hN
  subst e
  match ps, hpl with
  | [p], _ =>
   refine zb (zgP rfl (deep := 2) hoB.sl) ?_
   rintro _ w4 ⟨rfl, he4⟩
   refine ⟨((p : Int), 0, ()), rfl, S', p, [p], rfl, ⟨hMk, hG, .one ?_, by simp⟩, ?_⟩
   ·have := hpart 0 (by omega)
    rw [zcB rfl, zcB hlen.symm] at this
    exact this
   ·obtain ⟨F4, a1, a2, a3⟩ := hst3
    exact ⟨F4, a1.ext he4, a2, Only.trans a3 (Only.zG (F := F) he4) (fun j hj => .inl hj)⟩
 ·clear hN
  subst e
  match ps, hpl with
  | [p, q], _ =>
   have hm : lo ks.length 2 1 = ks.length / 2 := by unfold lo; rw [Nat.one_mul]
   have hm0 : lo ks.length 2 0 = 0 := zim _ _
   have hm2 : lo ks.length 2 2 = ks.length := zkp (by omega)
   have ekey : ((List.range 2).map fun i => ks.getD (lo ks.length 2 i) 0) = [ks.getD 0 0, ks.getD (ks.length / 2) 0] := by
    show [ks.getD (lo ks.length 2 0) 0, ks.getD (lo ks.length 2 1) 0] = _
    rw [hm, hm0]
   rw [ekey] at hoA
   have hAl := hoA.yc
   have hBl := hoB.yc
   have h64' : ∀ i, ks.getD i 0 < 18446744073709551616 := fun i => by
    rw [List.getD_eq_getElem?_getD]
    cases hq : ks[i]? with
    | none => exact (by decide : (0 : Nat) < 18446744073709551616)
    | some v => exact h64 v (List.mem_of_getElem? hq)
   have hsp := hMk.sup
   have hfr := hMk.free
   have hpn := hMk.pen
   have hle : A2 = A2 := rfl
   simp only [List.length_cons, List.length_nil] at hfr hpn
   refine zb (zov (k0 := ks.getD 0 0) (k1 := ks.getD (ks.length / 2) 0) (p := p) (q := q) hS3 hG (by omega) (x := (A, 2, c)) (y := (none, 0, 0)) (z := (A2, 2, c2)) hoA.sl hoA.le.1 hoB.sl hoB.le.1 (fun a ha => ⟨hAF _ (by rw [show A = some a from ha]; rfl), hAl _ (by rw [show A = some a from ha]; rfl)⟩) (fun a ha => ⟨hBF _ (by rw [show A2 = some a from ha]; rfl), hBl _ (by rw [show A2 = some a from ha]; rfl)⟩) (h64' _) (h64' _) (by rw [hsp]; omega)) ?_
   rintro _ w4 ⟨S4, n, rfl, hP, hpg, hG4, hst⟩
   refine ⟨((n : Int), 0, ()), rfl, S4, n, [p, q] ++ [n], rfl, ⟨hMk.trans hP, hG4, ?_, by simp⟩, ?_⟩
   ·have a0 := hpart 0 (by omega)
    have a1 := hpart 1 (by omega)
    have u0 := (hPg 0 (by omega)).2
    have u1 := (hPg 1 (by omega)).2
    have kp : ∀ j, zI S'.sup.pages S'.now j = true -> S4.page j = S'.page j := fun j hj => (hP.used hG.good hj).1
    unfold prt at a0 a1
    rw [hm0, show lo ks.length 2 (0 + 1) = _ from hm, List.drop_zero, List.drop_zero, Nat.sub_zero] at a0
    rw [hm, show lo ks.length 2 (1 + 1) = _ from hm2] at a1
    rw [List.take_of_length_le (l := ks.drop _) (by rw [List.length_drop]; omega), List.take_of_length_le (l := vs.drop _) (by rw [List.length_drop]; omega)] at a1
    exact .two (ks.length / 2) p q (by omega) (by omega) hlen hrise h64 hpg (a0.keep (kp _ u0)) (a1.keep (kp _ u1))
   ·exact yx.trans (Only.trans (Only.zG he) hO3 (fun j hj => .inl hj)) (fun k hk => by
     rcases hF3 k hk with e | e
     ·exact .inl e
     ·exact .inr (by omega)) hst
theorem zhR (h : ya w b db S F) {ks vs : List Nat} {x y : SLC} (hg : Great S (vs ++ R) H M) (hpen : S.dev.pen.length <= 700000) (hkx : Sli (zu .u64) w x.1 x.2.1 ks) (hxc : x.2.1 <= x.2.2) (hvy : Sli (zu .u64) w y.1 y.2.1 vs)
  (hxF : ∀ a, x.1 = some a -> ¬ F a.block /\ a.block < w.heap.size) (hyF : ∀ a, y.1 = some a -> ¬ F a.block /\ a.block < w.heap.size)
  (hlen : ks.length = vs.length) (h64 : ∀ k ∈ ks, k < 18446744073709551616) (h1 : 1 <= ks.length) (h2 : ks.length <= 2 * (S.r0 / 12)) (hrise : xE ks = true) (hf : S.sup.pages.length + 3 <= S.zV) (h6 : ∀ v ∈ vs, S.now.getD v 0 < 65535) :
  Calls Tryz.prog 86 #[.pointer (some ⟨b, 0, none⟩), .bool true, .slice x.1 x.2.1 x.2.2, .slice y.1 y.2.1 y.2.2] w (Ret fun v w' => ∃ (S' : Spa) (n : Nat) (ls : List Nat), v = .tuple #[.int .u32 (n : Int), .int .i64 0] /\ zio S S' n ks vs ls R H M /\ yx w b db F S' w') := by
 obtain ⟨q0, q1, q2, q3⟩ := xN hg.good.dims
 have hxl := hkx.len
 have hyl := hvy.len
 have hFlt := h.lt
 have hvu : ∀ v ∈ vs, zI S.sup.pages S.now v = true := fun v hv => hg.good.well.root v (List.mem_append_left _ hv)
 apply zn3
 unfold S86
 refine zc (by rfl) ?_
 refine zc (bne_eq_false_iff_eq.2 (by omega)) ?_
 refine zb (R := fun v w' => v = .int .u8 5 /\ w' = w) ?_ ?_
 ·apply zlg
  unfold S133
  exact zf (by rfl) ⟨rfl, rfl⟩
 rintro _ w1 ⟨rfl, rfl⟩
 refine ⟨_, rfl, ?_⟩
 refine yE (vs := ndV 5 x y (none, 0, 0)) (by rfl) (qZ _ _ _ _) (fun r2 w2 hb2 he2 hr2 => ?_) (by rfl)
 have hs2 := he2.size
 refine zx (fun q w' => ∃ (i : Nat) (Fi : Nat -> Prop) (A : Option Addr) (c : Nat), i <= vs.length /\ q = ((i : Int), ()) /\ ya w' b db S Fi /\ (∀ k, Fi k -> F k \/ w2.heap.size <= k) /\ Only F w1 w' /\ w2.heap.size <= w'.heap.size /\ Blk w' r2 (ndV 5 x y (A, i, c)) 215 /\ Owni (zu .u32) 41 w' w2.heap.size A i c (vs.take i) /\ (∀ j, orow A = some j -> ¬ Fi j)) (fun q => (vs.length - q.1).toNat)
  ⟨0, F, none, 0, by omega, rfl, h.ext he2, fun k hk => .inl hk, Only.zG he2, Nat.le_refl _, hb2, Owni.nil _ _ _, fun j hj => (by cases hj)⟩ ?_
 rintro _ w3 ⟨i, Fi, A, c, hi, rfl, hS3, hFi, hO3, hs3, hb3, ho3, hAF⟩
 dsimp only
 have hnFi : ∀ j, ¬ F j -> j < w2.heap.size -> ¬ Fi j := fun j h1 h2 hf => by
  rcases hFi j hf with e | e
  ·exact h1 e
  ·omega
 have hr2l := hb2.lt
 by_cases hlt : i < vs.length
 ·refine zf (decide_eq_true (by omega)) ?_
  have hv3 := hvy.only hO3 (fun a ha => (hyF a ha).1)
  have hk3 := hkx.only hO3 (fun a ha => (hxF a ha).1)
  have hvi : vs.getD i 0 ∈ vs := by rw [List.getD_eq_getElem?_getD, List.getElem?_eq_getElem hlt]; exact List.getElem_mem _
  have hvN := hg.good.well.lt (hvu _ hvi)
  have hN := hg.good.dims.n
  refine yB (fun (_ : Unit) w' => ∃ (Fj : Nat -> Prop) (A' : Option Addr) (c' : Nat), ya w' b db S Fj /\ (∀ k, Fj k -> F k \/ w2.heap.size <= k) /\ Only F w1 w' /\ w2.heap.size <= w'.heap.size /\ Blk w' r2 (ndV 5 x y (A', i + 1, c')) 215 /\ Owni (zu .u32) 41 w' w2.heap.size A' (i + 1) c' (vs.take (i + 1)) /\ (∀ j, orow A' = some j -> ¬ Fj j)) ?_ (fun J hJ => ?_)
  ·rintro _ w4 ⟨Fj, A', c', g1, g2, g3, g4, g5, g6, g7⟩
   exact ⟨⟨i + 1, Fj, A', c', by omega, by rw [wrap_i64 (by omega) (by omega)]; rfl, g1, g2, g3, g4, g5, g6, g7⟩, by rw [wrap_i64 (by omega) (by omega)]; omega⟩
  refine zR hv3 (by omega) (by omega) ?_
  rw [Int.toNat_natCast]
  refine yB (fun (_ : Unit) w' => ∃ (Fj : Nat -> Prop), ya w' b db S Fj /\ (∀ k, Fj k -> Fi k \/ w3.heap.size <= k) /\ Only Fi w3 w') ?_ (fun J9 hJ9 => ?_)
  rotate_left
  ·refine zK fun w4 he4 hz4 hh4 => ?_
   have used_ : ∀ {K : WP}, True -> ze Tryz.prog 134 [.pointer (some ⟨b, 0, none⟩), .int .u64 ((vs.getD i 0 : Nat) : Int)] (.one (.one .bool)) (fun u : Bool => za (!u) K (J9 ())) w4 := by
    intro K _
    refine zb (zhO (hS3.ext he4) hg (hvu _ hvi) (h6 _ hvi)) ?_
    rintro _ w5 ⟨rfl, F5, g1, g2, g3⟩
    exact ⟨_, rfl, zc (by rfl) (hJ9 _ _ ⟨F5, g1, fun k hk => by
     rcases g2 k hk with e | e
     ·exact .inl e
     ·exact .inr (by omega), Only.trans (Only.zG he4) g3 (fun j hj => .inl hj)⟩)⟩
   by_cases h0 : i = 0
   ·exact zc (decide_eq_false (by omega)) (zf rfl (used_ trivial))
   ·refine zf (decide_eq_true (by omega)) ?_
    rw [show IntKind.wrap .i64 ((i : Int) - 1) = ((i - 1 : Nat) : Int) by rw [wrap_i64 (by omega) (by omega)]; omega]
    refine zR (hk3.ext he4) (by omega) (by omega) ?_
    refine zR (hk3.ext he4) (by omega) (by omega) ?_
    rw [Int.toNat_natCast, Int.toNat_natCast]
    have := qE.1 hrise (i - 1) (by omega)
    rw [show i - 1 + 1 = i by omega] at this
    exact zc (decide_eq_false (by omega)) (zf rfl (used_ trivial))
  rintro _ w4 ⟨F4, hS4, hF4, hO4⟩
  refine zf rfl ?_
  have hS3lt := hS3.lt
  have hs4 := hO4.2.2.2.1
  have hF42 : ∀ k, F4 k -> F k \/ w2.heap.size <= k := fun k hk => by
   rcases hF4 k hk with e | e
   ·exact hFi k e
   ·exact .inr (by omega)
  have hr2F : ¬ F r2 := fun hf => by have := hFlt _ hf; omega
  have hb4 := hb3.only hO4 (hnFi _ hr2F hr2l)
  refine zn 3 ((A, i, c) : SLC) hb4 (by rfl) ?_
  have hw32 : IntKind.wrap .u32 ((vs.getD i 0 : Nat) : Int) = ((vs.getD i 0 : Nat) : Int) := by rw [wrap_u32]; omega
  rw [hw32]
  have ho4 := ho3.only hO4 hAF
  refine yZ (E := zu .u32) (ys := [vs.getD i 0]) (by rfl) rfl jD ho4 (by omega) (by dsimp only; omega) (by omega) ?_
  intro A' c' w5 ho5 hg5
  have hs5 := hg5.grown.size
  have hb5 := hb4.grown hg5.grown (fun hh => by have := ho3.row _ hh.symm; omega)
  refine stE (o := 3) hb5 (by rw [zz]) (by show 3 < 4; omega) ?_
  intro w6 hb6 o6
  have hs6 := o6.2.2.2.1
  have hAF4 : ∀ j, orow A = some j -> ¬ F4 j := fun j hj hf => by
   have := ho3.yc j hj
   rcases hF4 j hf with e | e
   ·exact hAF j hj e
   ·omega
  have h4lt := hS4.lt
  have o46 : Only (fun j => orow A = some j \/ j = r2) w4 w6 := Only.trans (Only.z7 hg5.grown (fun j hj => .inl (.inl hj))) o6 (fun j hj => .inl (.inr hj))
  refine hJ _ _ ⟨F4, A', c', hS4.only o46 (fun j hj e => by
   rcases e with e | e
   ·exact hAF4 j e hj
   ·rw [e] at hj
    rcases hF42 _ hj with e | e
    ·exact hr2F e
    ·omega), hF42, Only.trans (Only.trans hO3 hO4 (fun j hj => by
     rcases hFi j hj with e | e
     ·exact .inl e
     ·exact .inr (by omega))) o46 (fun j hj => .inr (by
     rcases hj with e | e
     ·have := ho3.row j e; omega
     ·omega)), by omega, hb6, ?_, fun j hj hf => ?_⟩
  ·rw [show vs.take (i + 1) = vs.take i ++ [vs.getD i 0] by rw [List.take_succ_eq_append_getElem hlt, List.getD_eq_getElem?_getD, List.getElem?_eq_getElem hlt]; rfl]
   exact ho5.only o6 (fun j hj e => by have := ho5.row j hj; have : j = r2 := e; omega)
  ·rcases hg5.next j hj with e | e
   ·exact hAF4 j e hf
   ·have := h4lt j hf; omega
 ·obtain rfl : i = vs.length := by omega
  refine zc (decide_eq_false (by omega)) ?_
  rw [List.take_of_length_le (by omega)] at ho3
  refine zW (ls := qO) (ndT 5 x y (A, vs.length, c)) hb3 (by rfl) ?_
  have hAl := ho3.yc
  refine zb (zhQ hS3 hg hpen (z := (A, vs.length, c)) (hkx.only hO3 (fun a ha => (hxF a ha).1)) hxc ho3.sl ho3.le.1 (fun a ha => ⟨hnFi _ (hxF a ha).1 (by have := (hxF a ha).2; omega), by have := (hxF a ha).2; omega⟩) (fun a ha => ⟨hAF _ (by rw [show A = some a from ha]; rfl), hAl _ (by rw [show A = some a from ha]; rfl)⟩) hlen h64 h1 h2 hrise hf) ?_
  rintro _ w4 ⟨S', n, ls, rfl, hB, hst⟩
  refine ⟨((n : Int), 0, ()), rfl, S', n, ls, rfl, hB, yx.trans hO3 (fun k hk => ?_) hst⟩
  rcases hFi k hk with e | e
  ·exact .inl e
  ·exact .inr (by omega)
end V
/- Contracts of the package catalog: Check. -/
namespace V
open Go Go.Proofs Go.RowKit Crc
variable {w : World}
theorem zfF {x : SLC} {l : List Snp} (h : Sli xv w x.1 x.2.1 l) : Calls Tryz.prog 59 #[.slice x.1 x.2.1 x.2.2, .func (.func 60) #[] #[]] w (Ret fun v w' => v = .bool (yu (fun e : Snp => e.1) l) /\ Ext w w') := by
 have hl := h.len
 have hle := h.le
 apply znF
 unfold S59
 refine zx (fun q w' => ∃ i : Nat, i <= l.length /\ q = ((i : Int), ()) /\ Ext w w' /\ (∀ e ∈ l.take i, yT (B e.1) = 0) /\ yC (fun e : Snp => e.1) (l.take i) = true) (fun q => (l.length - q.1).toNat) ⟨0, by omega, rfl, Ext.refl w, by simp, rfl⟩ ?_
 rintro _ w1 ⟨i, hi, rfl, he1, hn, hr⟩
 dsimp only
 by_cases hlt : i < l.length
 ·refine zf (decide_eq_true (by omega)) ?_
  refine vS (E := xv) zdr yb (h.ext he1) (fun _ => rfl) rfl (by omega) (by omega) ?_
  rw [Int.toNat_natCast]
  have eg : l[i]? = some (l.getD i yb) := by rw [List.getD_eq_getElem?_getD, List.getElem?_eq_getElem hlt]; rfl
  have hmem := List.mem_of_getElem? eg
  have htk : l.take (i + 1) = l.take i ++ [l.getD i yb] := by rw [List.take_succ_eq_append_getElem hlt, List.getD_eq_getElem?_getD, List.getElem?_eq_getElem hlt]; rfl
  refine yE (vs := xv.f (l.getD i yb)) (by rfl) (xv.one _) (fun r5 w2 hb2 he2 hr2 => ?_) (by rfl)
  refine zK fun w3 he3 hz3 hh3 => ?_
  have hb3 := hb2.ext he3
  refine zW (ls := zfN) (zdr (l.getD i yb)) hb3 (by rfl) ?_
  refine xT (by kernel_rfl) ?_
  refine zb zah ?_
  rintro _ w4 ⟨rfl, he4⟩
  refine ⟨_, rfl, ?_⟩
  refine zb (zaX w4 _) ?_
  rintro _ w5 ⟨rfl, he5⟩
  refine ⟨_, rfl, ?_⟩
  have he35 := he4.trans he5
  have he05 := ((he1.trans he2).trans he3).trans he35
  refine zg (fun hq => ?_) (fun hq => ?_)
  ·have hq := bne_iff_ne.1 hq
   exact ⟨by rw [zb7 hmem hq], he05⟩
  have hq := bne_eq_false_iff_eq.1 hq
  have hn' : ∀ e ∈ l.take (i + 1), yT (B e.1) = 0 := fun e he => by
   rw [htk] at he
   rcases List.mem_append.1 he with e1 | e1
   ·exact hn e e1
   ·rw [List.mem_singleton.1 e1]; exact hq
  have hw : IntKind.wrap .i64 ((i : Int) + 1) = ((i + 1 : Nat) : Int) := by rw [wrap_i64 (by omega) (by omega)]; rfl
  rw [hw]
  by_cases h0 : i = 0
  ·subst h0
   refine zc (by rfl) ?_
   refine ⟨⟨1, by omega, rfl, he05, hn', ?_⟩, by omega⟩
   rw [htk]; rfl
  ·refine zf (decide_eq_true (by omega)) ?_
   rw [show IntKind.wrap .i64 ((i : Int) - 1) = ((i - 1 : Nat) : Int) by rw [wrap_i64 (by omega) (by omega)]; omega]
   refine vS (E := xv) zdr yb (h.ext he05) (fun _ => rfl) rfl (by omega) (by omega) ?_
   rw [Int.toNat_natCast]
   have hb5 := hb3.ext he35
   refine zW (ls := zfN) (zdr (l.getD i yb)) hb5 (by rfl) ?_
   refine xT (by kernel_rfl) ?_
   refine zb (zah (r := l.getD (i - 1) yb)) ?_
   rintro _ w6 ⟨rfl, he6⟩
   refine ⟨_, rfl, ?_⟩
   have hb6 := hb5.ext he6
   refine xC (fun p hp => ?_) ?_
   ·simp only [List.mem_cons, List.not_mem_nil, or_false] at hp
    rcases hp with rfl | rfl <;> simp only [zz, hb6.cell] <;> rfl
   refine xT (by kernel_rfl) ?_
   refine zb (zah (r := l.getD i yb)) ?_
   rintro _ w7 ⟨rfl, he7⟩
   refine ⟨_, rfl, ?_⟩
   have he07 := (he05.trans he6).trans he7
   rw [zgz]
   have eg1 : l[i - 1]? = some (l.getD (i - 1) yb) := by rw [List.getD_eq_getElem?_getD, List.getElem?_eq_getElem (by omega)]; rfl
   have hst := zaf (f := fun e : Snp => e.1) eg1 (by rw [show i - 1 + 1 = i by omega]; exact eg)
   rw [show i - 1 + 2 = i + 1 by omega, show i - 1 + 1 = i by omega, hr, Bool.true_and] at hst
   refine zg (fun hq2 => ?_) (fun hq2 => ?_)
   ·refine ⟨?_, he07⟩
    have hq2 : ltB (B (l.getD (i - 1) yb).1) (B (l.getD i yb).1) = false := by simpa using hq2
    have : yu (fun e : Snp => e.1) l = false := by
     cases hz : yu (fun e : Snp => e.1) l with
     | false => rfl
     | true =>
      unfold yu at hz
      rw [Bool.and_eq_true] at hz
      have := za8 (i + 1) hz.2
      rw [hst, hq2] at this
      cases this
    rw [this]
   ·have hq2 : ltB (B (l.getD (i - 1) yb).1) (B (l.getD i yb).1) = true := by simpa using hq2
    exact ⟨⟨i + 1, by omega, rfl, he07, hn', by rw [hst, hq2]⟩, by omega⟩
 ·obtain rfl : i = l.length := by omega
  refine zc (decide_eq_false (by omega)) ?_
  rw [List.take_of_length_le (by omega)] at hn hr
  refine ⟨?_, he1⟩
  have : yu (fun e : Snp => e.1) l = true := by
   unfold yu
   rw [hr, Bool.and_true, List.all_eq_true]
   exact fun e he => (zds _).2 (hn e he)
  rw [this]
def zks (g : FuncId) (cap : Array Value) (q : Nat -> Bool) (w : World) (l : List Raw) : Prop := ∀ (w' : World) i, Ext w w' -> i < l.length -> Calls Tryz.prog g ([Value.agg (yn.f (l.getD i yi)).toArray] ++ cap.toList).toArray w' (Ret fun v w'' => v = .bool (q i) /\ Ext w' w'')
def yX (q : Nat -> Bool) (n : Nat) : Nat := (List.range n).findIdx q
theorem uT {q : Nat -> Bool} {n : Nat} (h : yX q n < n) : q (yX q n) = true := by
 unfold yX at h ⊢
 have h2 : (List.range n).findIdx q < (List.range n).length := by rw [List.length_range]; exact h
 have := List.findIdx_getElem (p := q) (xs := List.range n) (w := h2)
 rwa [List.getElem_range] at this
theorem vY {q : Nat -> Bool} {n i : Nat} (h : i < yX q n) : q i = false := by
 unfold yX at h
 have h2 := List.not_of_lt_findIdx h
 rw [List.getElem_range] at h2
 simpa using h2
theorem zcj {x : SLC} {l : List Raw} {g : FuncId} {cap : Array Value} {q : Nat -> Bool} (hg : enterable Tryz.prog g = true) (h : Sli yn w x.1 x.2.1 l) (ht : zks g cap q w l) :
  Calls Tryz.prog 55 #[.slice x.1 x.2.1 x.2.2, .func (.func g) #[] cap] w (Ret fun v w' => v = .int .i64 (if yX q l.length < l.length then (yX q l.length : Int) else -1) /\ Ext w w') := by
 have hl := h.len
 have hle := h.le
 apply znB
 unfold S55
 refine zx (fun y w' => ∃ i : Nat, i <= l.length /\ y = ((i : Int), ()) /\ Ext w w' /\ i <= yX q l.length) (fun y => (l.length - y.1).toNat) ⟨0, by omega, rfl, Ext.refl w, by omega⟩ ?_
 rintro _ w1 ⟨i, hi, rfl, he1, hf⟩
 dsimp only
 by_cases hlt : i < l.length
 ·refine zf (decide_eq_true (by omega)) ?_
  refine vS (E := yn) za7 yi (h.ext he1) (fun _ => rfl) rfl (by omega) (by omega) ?_
  rw [Int.toNat_natCast]
  refine xT hg ?_
  refine zb (ht w1 i he1 hlt) ?_
  rintro _ w2 ⟨rfl, he2⟩
  refine ⟨_, rfl, ?_⟩
  refine zg (fun hd => ?_) (fun hd => ?_)
  ·have hfi : yX q l.length = i := by
    rcases Nat.lt_or_ge i (yX q l.length) with h1 | h1
    ·have := vY h1
     rw [hd] at this
     cases this
    ·omega
   refine ⟨?_, he1.trans he2⟩
   rw [hfi, if_pos hlt]
  ·rw [wrap_i64 (by omega) (by omega)]
   refine ⟨⟨i + 1, by omega, rfl, he1.trans he2, ?_⟩, by omega⟩
   rcases Nat.lt_or_ge i (yX q l.length) with h1 | h1
   ·omega
   ·have hfi : yX q l.length = i := by omega
    have := uT (q := q) (n := l.length) (by omega)
    rw [hfi, hd] at this
    cases this
 ·obtain rfl : i = l.length := by omega
  refine zc (decide_eq_false (by omega)) ?_
  exact ⟨by rw [if_neg (by omega)], he1⟩
theorem zeh {x : SLC} {l : List Raw} {g : FuncId} {cap : Array Value} {q : Nat -> Bool} (hg : enterable Tryz.prog g = true) (h : Sli yn w x.1 x.2.1 l) (ht : zks g cap q w l) :
  Calls Tryz.prog 61 #[.slice x.1 x.2.1 x.2.2, .func (.func g) #[] cap] w (Ret fun v w' => v = .bool (decide (yX q l.length < l.length)) /\ Ext w w') := by
 apply znH
 unfold S61
 refine zb (zcj hg h ht) ?_
 rintro _ w1 ⟨rfl, he1⟩
 refine ⟨_, rfl, ?_, he1⟩
 by_cases hq : yX q l.length < l.length
 ·rw [if_pos hq, decide_eq_true hq, decide_eq_true (by omega)]
 ·rw [if_neg hq, decide_eq_false hq]; rfl
theorem zkt {r : Raw} {e : Ent} (h : zcx w r e) : Calls Tryz.prog 62 #[.agg (yn.f r).toArray] w (Ret fun v w' => v = .bool (!vw e) /\ Ext w w') := by
 obtain ⟨h1, h2, h3, h4⟩ := h
 apply znI
 unfold S62
 refine zr fun r1 w1 hb1 he1 hr1 hz1 => ?_
 have hb1 : Blk w1 r1 (yn.f r) 44 := hb1
 refine zn 1 r.2.1 hb1 (by rfl) ?_
 refine zb (uw (h3.ext he1) h4) ?_
 rintro _ w2 ⟨rfl, he2⟩
 refine ⟨_, rfl, ?_⟩
 have hb2 := hb1.ext he2
 have he := he1.trans he2
 have e1 : r.2.2.1 = e.2.2.1 := by rw [h2]
 have e2 : r.2.2.2.1 = e.2.2.2.1 := by rw [h2]
 have e3 : r.2.2.2.2 = e.2.2.2.2 := by rw [h2]
 unfold vw
 refine zg (fun hq => ?_) (fun hq => ?_)
 ·have hq := bne_iff_ne.1 hq
  exact ⟨by rw [decide_eq_false hq]; rfl, he⟩
 have hq := bne_eq_false_iff_eq.1 hq
 rw [decide_eq_true hq, Bool.true_and]
 refine zn 4 r.2.2.2.2 hb2 (by rfl) ?_
 rw [e3]
 refine zg (fun hq => ?_) (fun hq1 => ?_)
 ·have hq := of_decide_eq_true hq
  exact ⟨by rw [decide_eq_false (by omega)]; rfl, he⟩
 have hq1 := of_decide_eq_false hq1
 refine zn 4 r.2.2.2.2 hb2 (by rfl) ?_
 rw [e3]
 refine zg (fun hq => ?_) (fun hq2 => ?_)
 ·have hq := of_decide_eq_true hq
  exact ⟨by rw [decide_eq_false (by omega)]; rfl, he⟩
 have hq2 := of_decide_eq_false hq2
 rw [decide_eq_true (p := 0 <= e.2.2.2.2 /\ e.2.2.2.2 <= 4096) (by omega), Bool.true_and]
 refine zn 2 ((r.2.2.1 : Nat) : Int) hb2 (by rfl) ?_
 refine zn 4 r.2.2.2.2 hb2 (by rfl) ?_
 rw [e3, e1]
 have eb : (((e.2.2.1 : Nat) : Int) == 0) = decide (e.2.2.1 = 0) := by
  rw [Bool.eq_iff_iff, beq_iff_eq, decide_eq_true_iff]; omega
 have eb2 : (e.2.2.2.2 == 0) = decide (e.2.2.2.2 = 0) := by
  rw [Bool.eq_iff_iff, beq_iff_eq, decide_eq_true_iff]
 rw [eb, eb2]
 refine zg (fun hq => ?_) (fun hq3 => ?_)
 ·refine ⟨?_, he⟩
  have : ¬ (e.2.2.1 = 0 ↔ e.2.2.2.2 = 0) := by
   intro hh
   by_cases h0 : e.2.2.1 = 0
   ·rw [decide_eq_true h0, decide_eq_true (hh.1 h0)] at hq; cases hq
   ·rw [decide_eq_false h0, decide_eq_false (fun e => h0 (hh.2 e))] at hq; cases hq
  rw [decide_eq_false this]; rfl
 have hh : e.2.2.1 = 0 ↔ e.2.2.2.2 = 0 := by
  have : decide (e.2.2.1 = 0) = decide (e.2.2.2.2 = 0) := by simpa using hq3
  exact decide_eq_decide.1 this
 rw [decide_eq_true hh, Bool.true_and]
 refine zn 3 ((r.2.2.2.1 : Nat) : Int) hb2 (by rfl) ?_
 rw [e2]
 refine ⟨?_, he⟩
 congr 1
 by_cases h0 : e.2.2.2.1 < 1099511627776
 ·rw [decide_eq_true h0, decide_eq_false (by omega)]; rfl
 ·rw [decide_eq_false h0, decide_eq_true (by omega)]; rfl
theorem zku {raws : List Raw} {es : List Ent} (hl : raws.length = es.length) (h : ∀ i, i < es.length -> (raws.getD i yi).1 = (es.getD i zS).1) : yu (fun e : Raw => e.1) raws = yu (fun e : Ent => e.1) es := by
 have e1 : raws.map (fun e => e.1) = es.map (fun e => e.1) := by
  refine List.ext_getElem (by simp [hl]) (fun i h1 h2 => ?_)
  have h1' : i < raws.length := by simpa using h1
  have h2' : i < es.length := by simpa using h2
  have := h i h2'
  rw [List.getD_eq_getElem?_getD, List.getElem?_eq_getElem h1', List.getD_eq_getElem?_getD, List.getElem?_eq_getElem h2'] at this
  simpa using this
 have g1 : ∀ {α : Type} (f : α -> ByteArray) (l : List α), yC f l = yC id (l.map f) := by
  intro α f l
  induction l with
  | nil => rfl
  | cons a r ih =>
   cases r with
   | nil => rfl
   | cons c r => simp only [yC, List.map_cons, id] at ih ⊢; rw [ih]
 have g2 : ∀ {α : Type} (f : α -> ByteArray) (l : List α), (l.all fun x => zeC (f x)) = (l.map f).all zeC := by
  intro α f l
  simp [List.all_map, Function.comp_def]
 unfold yu
 rw [g1 _ raws, g1 _ es, g2 _ raws, g2 _ es, e1]
theorem jT {x y : SLC} {c : Cat} (h : qA w x y c) : Calls Tryz.prog 19 #[.agg (zY x y).toArray] w (Ret fun v w' => v = .int .i64 (if kg c then 0 else 240) /\ Ext w w') := by
 obtain ⟨⟨raws, hT⟩, hs, hcx, hcy⟩ := h
 have hxl := hT.sl.len
 have hyl := hs.len
 have hlr := hT.len
 apply znj
 unfold S19
 refine zr fun r1 w1 hb1 he1 hr1 hz1 => ?_
 have hb1 : Blk w1 r1 (zY x y) 25 := hb1
 refine yB (fun t w' => t = (decide (c.1.length > 16 \/ c.2.length > 16), ()) /\ w' = w1) ?_ (fun J hJ => ?_)
 rotate_left
 ·refine zE x hb1 (by rfl) ?_
  refine zg (fun hq => ?_) (fun hq => ?_)
  ·have hq := of_decide_eq_true hq
   exact hJ _ _ ⟨by rw [decide_eq_true (.inl (by omega))], rfl⟩
  ·have hq := of_decide_eq_false hq
   refine zn 1 y hb1 (by rfl) ?_
   refine hJ _ _ ⟨?_, rfl⟩
   by_cases h2 : c.2.length > 16
   ·rw [decide_eq_true (show (y.2.1 : Int) > 16 by omega), decide_eq_true (.inr h2)]
   ·rw [decide_eq_false (show ¬ (y.2.1 : Int) > 16 by omega), decide_eq_false (by omega)]
 rintro _ _ ⟨rfl, rfl⟩
 dsimp only
 unfold kg
 refine zg (fun hq => ?_) (fun hq => ?_)
 ·have hq := of_decide_eq_true hq
  exact ⟨by rw [decide_eq_false (by omega)]; rfl, he1⟩
 have hq := of_decide_eq_false hq
 rw [decide_eq_true (p := c.1.length <= 16 /\ c.2.length <= 16) (by omega), Bool.true_and]
 refine zE x hb1 (by rfl) ?_
 refine zb (zfC (hT.sl.ext he1)) ?_
 rintro _ w2 ⟨rfl, he2⟩
 refine ⟨_, rfl, ?_⟩
 rw [zku hlr (fun i hi => (hT.at_ i hi).name)]
 have he02 := he1.trans he2
 refine zg (fun hq => ?_) (fun hq1 => ?_)
 ·have hq : yu (fun e : Ent => e.1) c.1 = false := by simpa using hq
  exact ⟨by rw [hq]; rfl, he02⟩
 have hq1 : yu (fun e : Ent => e.1) c.1 = true := by simpa using hq1
 rw [hq1, Bool.true_and]
 have hb2 := hb1.ext he2
 refine zn 1 y hb2 (by rfl) ?_
 refine zb (zfF (hs.ext he02)) ?_
 rintro _ w3 ⟨rfl, he3⟩
 refine ⟨_, rfl, ?_⟩
 have he03 := he02.trans he3
 refine zg (fun hq => ?_) (fun hq2 => ?_)
 ·have hq : yu (fun e : Snp => e.1) c.2 = false := by simpa using hq
  exact ⟨by rw [hq]; rfl, he03⟩
 have hq2 : yu (fun e : Snp => e.1) c.2 = true := by simpa using hq2
 rw [hq2, Bool.true_and]
 refine zE x (hb2.ext he3) (by rfl) ?_
 refine zb (zeh (q := fun i => !vw (c.1.getD i zS)) (by kernel_rfl) (hT.sl.ext he03) (fun w' i he hi => zkt (((hT.at_ i (by omega)).ext he03).ext he))) ?_
 rintro _ w4 ⟨rfl, he4⟩
 refine ⟨_, rfl, ?_⟩
 have he04 := he03.trans he4
 rw [hlr]
 by_cases hf : yX (fun i => !vw (c.1.getD i zS)) c.1.length < c.1.length
 ·refine zf (decide_eq_true hf) ⟨?_, he04⟩
  have h1 := uT hf
  have : c.1.all vw = false := by
   cases hz : c.1.all vw with
   | false => rfl
   | true =>
    rw [List.all_eq_true] at hz
    rw [List.getD_eq_getElem?_getD, List.getElem?_eq_getElem hf] at h1
    have := hz _ (List.getElem_mem hf)
    simp only [Option.getD_some] at h1
    rw [this] at h1
    cases h1
  rw [this]; rfl
 ·refine zc (decide_eq_false hf) ⟨?_, he04⟩
  have : c.1.all vw = true := by
   rw [List.all_eq_true]
   intro e he
   obtain ⟨i, hi, rfl⟩ := List.mem_iff_getElem.1 he
   have := vY (q := fun i => !vw (c.1.getD i zS)) (n := c.1.length) (i := i) (by omega)
   rw [List.getD_eq_getElem?_getD, List.getElem?_eq_getElem hi] at this
   simpa using this
  rw [this]; rfl
end V
/- Contracts of the package catalog: Bytes. -/
namespace V
open Go Go.Proofs Go.RowKit Crc
variable {w : World}
theorem Own.neB {w : World} {e t : TypeId} {B n c r : Nat} {A : Option Addr} {vs cs : List Value} (h : Own e w B A n c vs) (hb : Blk w r cs t) (he : e ≠ t) : ∀ j, orow A = some j -> j ≠ r := by
 intro j hj hr
 subst hr
 rcases h.2 with ⟨hv, _⟩ | ⟨g, cap, cur, hv, _, hg, _⟩
 ·injection hv with hv; subst hv; cases hj
 ·injection hv with hv
  subst hv
  have e1 : g = j := Option.some.inj hj
  subst e1
  have hb' : w.heap[g]? = some _ := hb
  rw [hg] at hb'
  injection hb' with hb'
  injection hb' with _ e2 _
  exact he e2
theorem zeP {w : World} {B : Nat} {cs : Array Value} {e : TypeId} {K : Nat -> WP} (hB : B <= w.heap.size) (hm : cs.size <= 9223372036854775807) (h : ∀ r w', Own e w' B (some ⟨r, 0, none⟩) cs.size cs.size cs.toList -> Ext w w' -> w.heap.size = r -> w'.heap.size = r + 1 -> K r w') : zi (.cells cs e) K w :=
 h _ _ (Own.lit hB hm) ((Ext.refl w).alloc _) rfl (by simp)
theorem zmE {w : World} {B : Nat} {A : Option Addr} {n c : Nat} {bs : List UInt8} (y : UInt8) {v : Int} {K : SLC -> WP} (h : Own 5 w B A n c (bV bs)) (hB : B <= w.heap.size) (hv : v = (y.toNat : Int)) (hn : n + 1 <= 140737488355328)
  (hK : ∀ A' c' w', Own 5 w' B A' (n + 1) c' (bV (bs ++ [y])) -> Grew w w' (orow A) (orow A') -> K (A', n + 1, c') w') :
  (zi (.cells #[.int .u8 v] 5) fun r => zw Tryz.prog (Builtin.append_ #[85, 85] 85 #[.slice A n c, .slice (some (aD r)) 1 1]) .slc K) w := by
 subst hv
 refine zdV (ys := [Value.int .u8 (y.toNat : Int)]) qq h hB (zat [y]) (by simp; omega) (by omega) ?_
 intro A' c' w' ho hg
 refine hK A' c' w' ?_ hg
 have : bV (bs ++ [y]) = bV bs ++ [Value.int .u8 (y.toNat : Int)] := by rw [xc]; rfl
 rw [this]
 exact ho
theorem zbx {B : Nat} {A : Option Addr} {n c : Nat} {bs : List UInt8} {s : ByteArray} (h : Own 5 w B A n c (bV bs)) (hB : B <= w.heap.size) (hn : n <= 1000000) (hs : s.size <= 1000000) :
  Calls Tryz.prog 41 #[.slice A n c, .string s] w (Ret fun r w' => ∃ x : SLC, r = .slice x.1 x.2.1 x.2.2 /\ Own 5 w' B x.1 x.2.1 x.2.2 (bV (bs ++ nmB s)) /\ Grew w w' (orow A) (orow x.1)) := by
 apply znv
 unfold S41
 rw [qe]
 refine zmE (UInt8.ofNat s.size) h hB rfl (by omega) ?_
 intro A1 c1 w1 h1 g1
 have hs1 := g1.grown.size
 dsimp only
 refine zaU qq (by kernel_rfl) h1 (by omega) (by omega) ?_
 intro A2 c2 w2 h2 g2
 refine ⟨(A2, _, c2), rfl, ?_, g1.step g2⟩
 have : bs ++ nmB s = bs ++ [UInt8.ofNat s.size] ++ V.B s := by simp [nmB]
 rw [this]
 exact h2
theorem zaH {B : Nat} {A : Option Addr} {n c : Nat} {bs : List UInt8} {k : Nat} (h : Own 5 w B A n c (bV bs)) (hB : B <= w.heap.size) (hn : n <= 1000000) :
  Calls Tryz.prog 43 #[.slice A n c, .int .u32 (k : Int)] w (Ret fun r w' => ∃ x : SLC, r = .slice x.1 x.2.1 x.2.2 /\ Own 5 w' B x.1 x.2.1 x.2.2 (bV (bs ++ [vk k])) /\ Grew w w' (orow A) (orow x.1)) := by
 apply znw
 unfold S43
 have e : IntKind.wrap .u8 (if (1 : Int) < (k : Int) then 1 else (k : Int)) = ((vk k).toNat : Int) := by
  have : (if (1 : Int) < (k : Int) then 1 else (k : Int)) = ((min k 1 : Nat) : Int) := by split <;> omega
  rw [this, qe]
  rfl
 refine zmE (vk k) h hB e (by omega) ?_
 intro A1 c1 w1 h1 g1
 exact ⟨(A1, _, c1), rfl, h1, g1⟩
theorem uU {α : Type} (f : α -> List UInt8) (l : List α) (i : Nat) : ((l.take i).flatMap f).length <= (l.flatMap f).length := by
 conv => rhs; rw [<- List.take_append_drop i l]
 rw [List.flatMap_append, List.length_append]
 omega
theorem zow {c : Cat} (h : ko c) (e : Ent) (he : e ∈ c.1) : e.1.size <= 32 /\ (xd e.2.1).length <= 600 := by
 obtain ⟨h1, h2, _⟩ := h.ents e he
 have := qx h1
 have := yg e.1
 exact ⟨by omega, (zbq h2).2⟩
theorem zeQ {x y : SLC} {c : Cat} (h : qA w x y c) : Calls Tryz.prog 11 #[.agg (zY x y).toArray] w (Ret fun v w' => v = .tuple #[.string (zbT c).1, .int .i64 (zbT c).2] /\ Ext w w') := by
 obtain ⟨⟨raws, hT⟩, hs, hcx, hcy⟩ := id h
 have hxl := hT.sl.len
 have hyl := hs.len
 have hlr := hT.len
 apply znf
 unfold S11
 refine zr fun r1 w1 hb1 he1 hr1 hz1 => ?_
 have hb1 : Blk w1 r1 (zY x y) 25 := hb1
 refine zW (ls := xV) (xZ x y) hb1 (by rfl) ?_
 refine zb (jT (h.ext he1)) ?_
 rintro _ w2 ⟨rfl, he2⟩
 refine ⟨_, rfl, ?_⟩
 have he02 := he1.trans he2
 have hb2 := hb1.ext he2
 unfold zbT
 cases hok : kg c with
 | false => exact zf (by rfl) ⟨rfl, he02⟩
 | true =>
 have hC := vC.1 hok
 have hlen := hC.len
 have ht16 := hC.tabs
 have hs16 := hC.snaps
 refine zc (by rfl) ?_
 refine zE x hb2 (by rfl) ?_
 rw [qe, <- hxl, hlr]
 refine zeP (B := w2.heap.size) (Nat.le_refl _) (by simp) fun r5 w3 ho0 he3 hr5 hz3 => ?_
 have ho0 : Own 5 w3 w2.heap.size (some ⟨r5, 0, none⟩) 1 1 (bV [UInt8.ofNat c.1.length]) := ho0
 have he03 := he02.trans he3
 have hb3 := hb2.ext he3
 have hs2 := he02.size
 have hr1l := hb2.lt
 refine zE x hb3 (by rfl) ?_
 have hcl : (x6 c).length = (c.1.flatMap qX).length + ((c.2.flatMap jq).length + 2) := by
  unfold x6
  rw [List.length_cons, List.length_append, List.length_cons]; omega
 refine zx (fun q w' => ∃ (i : Nat) (A : Option Addr) (m k : Nat), i <= c.1.length /\ q = ((A, m, k), (i : Int), ()) /\ Ext w w' /\ w3.heap.size <= w'.heap.size /\ Blk w' r1 (zY x y) 25 /\ Own 5 w' w2.heap.size A m k (bV (UInt8.ofNat c.1.length :: (c.1.take i).flatMap qX))) (fun q => (c.1.length - q.2.1).toNat)
  ⟨0, _, 1, 1, by omega, rfl, he03, Nat.le_refl _, hb3, ho0⟩ ?_
 rintro _ w4 ⟨i, A, m, k, hi, rfl, he4, hs4, hb4, ho⟩
 dsimp only
 have hm := ho.sl.blen
 rw [List.length_cons] at hm
 have hle := uU qX c.1 i
 by_cases hlt : i < c.1.length
 ·refine zf (decide_eq_true (by omega)) ?_
  refine vS (E := yn) za7 yi (hT.sl.ext he4) (fun _ => rfl) rfl (by omega) (by omega) ?_
  rw [Int.toNat_natCast]
  have hE := (hT.at_ i hlt).ext he4
  have hmem : c.1.getD i zS ∈ c.1 := by rw [List.getD_eq_getElem?_getD, List.getElem?_eq_getElem hlt]; exact List.getElem_mem _
  have htk : c.1.take (i + 1) = c.1.take i ++ [c.1.getD i zS] := by rw [List.take_succ_eq_append_getElem hlt, List.getD_eq_getElem?_getD, List.getElem?_eq_getElem hlt]; rfl
  generalize c.1.getD i zS = e at *
  generalize raws.getD i yi = r at *
  obtain ⟨n1, n2⟩ := zow hC e hmem
  obtain ⟨g1, g2, g3, g4, g5⟩ := hC.ents e hmem
  refine yE (vs := yn.f r) (by rfl) (yn.one _) (fun r11 w5 hb5 he5 hr5 => ?_) (by rfl)
  have hE5 := hE.ext he5
  refine zn 1 r.2.1 hb5 (by rfl) ?_
  refine zb (zgj hE5.cols hE5.cap) ?_
  rintro _ w6 ⟨rfl, he6⟩
  have eB : zbS e.2.1 = (xd e.2.1, 0) := by unfold zbS; rw [if_pos g2]
  rw [eB]
  refine ⟨((⟨(xd e.2.1).toArray⟩ : ByteArray), 0, ()), rfl, zc (by rfl) ?_⟩
  have hb6 := hb5.ext he6
  have he46 := he5.trans he6
  have ho6 := ho.ext he46
  have hb16 := hb4.ext he46
  have hs46 := he46.size
  refine zE r.1 hb6 (by rfl) ?_
  rw [hE.name]
  refine zb (zbx (s := e.1) ho6 (by omega) (by omega) (by omega)) ?_
  rintro _ w7 ⟨x7, rfl, ho7, g7⟩
  refine ⟨x7, rfl, ?_⟩
  have hs7 := g7.grown.size
  have hm7 := ho7.sl.blen
  rw [List.length_append, uf, List.length_cons] at hm7
  have hb7 := hb6.grown g7.grown (fun hh => ho6.neB hb6 (by decide) _ hh.symm rfl)
  have hb17 := hb16.grown g7.grown (fun hh => ho6.neB hb16 (by decide) _ hh.symm rfl)
  have e7 : Ext w w7 := (he4.trans he46).grown g7.grown (fun j hj => by have := ho6.row' j hj; omega)
  have hszB : (⟨(xd e.2.1).toArray⟩ : ByteArray).size = (xd e.2.1).length := by rw [yg]; rfl
  refine zaU qq (by kernel_rfl) ho7 (by omega) (by dsimp only; omega) ?_
  intro A8 c8 w8 ho8 g8
  have hs8 := g8.grown.size
  have hm8 := ho8.sl.blen
  have hb8 := hb7.grown g8.grown (fun hh => ho7.neB hb7 (by decide) _ hh.symm rfl)
  have hb18 := hb17.grown g8.grown (fun hh => ho7.neB hb17 (by decide) _ hh.symm rfl)
  have e8 : Ext w w8 := e7.grown g8.grown (fun j hj => by have := ho7.row' j hj; omega)
  refine zK fun w9 he9 hz9 hh9 => ?_
  have ho9 := ho8.ext he9
  have hb9 := hb8.ext he9
  have hb19 := hb18.ext he9
  have e9 := e8.trans he9
  refine zn 3 ((r.2.2.2.1 : Nat) : Int) hb9 (by rfl) ?_
  refine zn 4 r.2.2.2.2 hb9 (by rfl) ?_
  rw [hE.rest]
  refine zb (xe (k := 8) ho9 (by omega) (by dsimp only; omega) (by omega) (by omega) (by omega)) ?_
  rintro _ w10 ⟨x10, rfl, ho10, g10⟩
  refine ⟨x10, rfl, ?_⟩
  have hs10 := g10.grown.size
  have hm10 := ho10.sl.blen
  rw [List.length_append, zv] at hm10
  have hb10 := hb9.grown g10.grown (fun hh => ho9.neB hb9 (by decide) _ hh.symm rfl)
  have hb110 := hb19.grown g10.grown (fun hh => ho9.neB hb19 (by decide) _ hh.symm rfl)
  have e10 : Ext w w10 := e9.grown g10.grown (fun j hj => by have := ho9.row' j hj; omega)
  refine xC (yK hb10 (by rw [<- hE.rest]; rfl)) ?_
  have ew : IntKind.wrap .u64 e.2.2.2.2 = ((e.2.2.2.2.toNat : Nat) : Int) := by
   rw [show e.2.2.2.2 = ((e.2.2.2.2.toNat : Nat) : Int) by omega, zy (by omega)]
   rfl
  rw [ew]
  dsimp only at hm8 hm10
  have hl8 : x10.2.1 = 1 + ((c.1.take i).flatMap qX).length + (e.1.size + 1) + (xd e.2.1).length + 8 := by
   rw [List.length_append, List.length_append, List.length_cons, uf] at hm10
   rw [show (V.B (⟨(xd e.2.1).toArray⟩ : ByteArray)).length = (xd e.2.1).length from rfl] at hm10
   omega
  refine zb (xe (k := 4) ho10 (by omega) (by omega) (by omega) (by omega) (by omega)) ?_
  rintro _ w11 ⟨x11, rfl, ho11, g11⟩
  refine ⟨x11, rfl, ?_⟩
  have hs11 := g11.grown.size
  have hm11 := ho11.sl.blen
  rw [List.length_append, zv] at hm11
  have hm10' := ho10.sl.blen
  have hb11 := hb10.grown g11.grown (fun hh => ho10.neB hb10 (by decide) _ hh.symm rfl)
  have hb111 := hb110.grown g11.grown (fun hh => ho10.neB hb110 (by decide) _ hh.symm rfl)
  have e11 : Ext w w11 := e10.grown g11.grown (fun j hj => by have := ho10.row' j hj; omega)
  refine zn 2 ((r.2.2.1 : Nat) : Int) hb11 (by rfl) ?_
  rw [hE.rest]
  refine zb (zaH (k := e.2.2.1) ho11 (by omega) (by omega)) ?_
  rintro _ w12 ⟨x12, rfl, ho12, g12⟩
  refine ⟨x12, rfl, ?_⟩
  have hs12 := g12.grown.size
  have hb112 := hb111.grown g12.grown (fun hh => ho11.neB hb111 (by decide) _ hh.symm rfl)
  have e12 : Ext w w12 := e11.grown g12.grown (fun j hj => by have := ho11.row' j hj; omega)
  refine ⟨⟨i + 1, x12.1, x12.2.1, x12.2.2, by omega, by rw [wrap_i64 (by omega) (by omega)]; rfl, e12, by omega, hb112, ?_⟩, by rw [wrap_i64 (by omega) (by omega)]; omega⟩
  have eb : UInt8.ofNat c.1.length :: (c.1.take (i + 1)).flatMap qX = UInt8.ofNat c.1.length :: (c.1.take i).flatMap qX ++ nmB e.1 ++ V.B (⟨(xd e.2.1).toArray⟩ : ByteArray) ++ le 8 e.2.2.2.1 ++ le 4 e.2.2.2.2.toNat ++ [vk e.2.2.1] := by
   rw [htk, List.flatMap_append, show V.B (⟨(xd e.2.1).toArray⟩ : ByteArray) = xd e.2.1 from rfl]
   simp [qX]
  rw [eb]
  exact ho12
 ·obtain rfl : i = c.1.length := by omega
  refine zc (decide_eq_false (by omega)) ?_
  rw [List.take_of_length_le (by omega)] at ho hm
  refine zn 1 y hb4 (by rfl) ?_
  rw [qe, <- hyl]
  refine zmE (UInt8.ofNat c.2.length) ho (by omega) rfl (by omega) ?_
  intro A5 c5 w5 ho5 g5
  have hs5 := g5.grown.size
  have hb5 := hb4.grown g5.grown (fun hh => ho.neB hb4 (by decide) _ hh.symm rfl)
  have e5 : Ext w w5 := he4.grown g5.grown (fun j hj => by have := ho.row' j hj; omega)
  refine zn 1 y hb5 (by rfl) ?_
  dsimp only
  generalize hpre : UInt8.ofNat c.1.length :: c.1.flatMap qX ++ [UInt8.ofNat c.2.length] = pre at ho5
  have hpl : pre.length = (c.1.flatMap qX).length + 2 := by rw [<- hpre]; simp
  refine zx (fun q w' => ∃ (i : Nat) (A : Option Addr) (m k : Nat), i <= c.2.length /\ q = ((A, m, k), (i : Int), ()) /\ Ext w w' /\ w3.heap.size <= w'.heap.size /\ Blk w' r1 (zY x y) 25 /\ Own 5 w' w2.heap.size A m k (bV (pre ++ (c.2.take i).flatMap jq))) (fun q => (c.2.length - q.2.1).toNat)
   ⟨0, A5, _, c5, by omega, rfl, e5, by omega, hb5, by simpa using ho5⟩ ?_
  rintro _ w6 ⟨i, A, m, k, hi, rfl, he6, hs6, hb6, ho⟩
  dsimp only
  have hm := ho.sl.blen
  rw [List.length_append] at hm
  have hle := uU jq c.2 i
  by_cases hlt : i < c.2.length
  ·refine zf (decide_eq_true (by omega)) ?_
   refine vS (E := xv) zdr yb (hs.ext he6) (fun _ => rfl) rfl (by omega) (by omega) ?_
   rw [Int.toNat_natCast]
   have hmem : c.2.getD i yb ∈ c.2 := by rw [List.getD_eq_getElem?_getD, List.getElem?_eq_getElem hlt]; exact List.getElem_mem _
   have htk : c.2.take (i + 1) = c.2.take i ++ [c.2.getD i yb] := by rw [List.take_succ_eq_append_getElem hlt, List.getD_eq_getElem?_getD, List.getElem?_eq_getElem hlt]; rfl
   generalize c.2.getD i yb = e at *
   have hnm := qx (hC.snps e hmem)
   have hsz := yg e.1
   refine yE (vs := xv.f e) (by rfl) (xv.one _) (fun r31 w7 hb7 he7 hr7 => ?_) (by rfl)
   refine zK fun w8 he8 hz8 hh8 => ?_
   have hb8 := hb7.ext he8
   have he78 := he7.trans he8
   have hs78 := he78.size
   have ho8 := ho.ext he78
   have hb18 := hb6.ext he78
   refine zE e.1 hb8 (by rfl) (zn 1 ((e.2 : Nat) : Int) hb8 (by rfl) ?_)
   refine zb (zbx (s := e.1) ho8 (by omega) (by omega) (by omega)) ?_
   rintro _ w9 ⟨x9, rfl, ho9, g9⟩
   refine ⟨x9, rfl, ?_⟩
   have hs9 := g9.grown.size
   have hm9 := ho9.sl.blen
   rw [List.length_append, List.length_append, uf] at hm9
   have hb9 := hb8.grown g9.grown (fun hh => ho8.neB hb8 (by decide) _ hh.symm rfl)
   have hb19 := hb18.grown g9.grown (fun hh => ho8.neB hb18 (by decide) _ hh.symm rfl)
   have e9 : Ext w w9 := (he6.trans he78).grown g9.grown (fun j hj => by have := ho8.row' j hj; omega)
   refine xC (yK hb9 rfl) ?_
   refine zb (zaH (k := e.2) ho9 (by omega) (by omega)) ?_
   rintro _ w10 ⟨x10, rfl, ho10, g10⟩
   refine ⟨x10, rfl, ?_⟩
   have hs10 := g10.grown.size
   have hb110 := hb19.grown g10.grown (fun hh => ho9.neB hb19 (by decide) _ hh.symm rfl)
   have e10 : Ext w w10 := e9.grown g10.grown (fun j hj => by have := ho9.row' j hj; omega)
   refine ⟨⟨i + 1, x10.1, x10.2.1, x10.2.2, by omega, by rw [wrap_i64 (by omega) (by omega)]; rfl, e10, by omega, hb110, ?_⟩, by rw [wrap_i64 (by omega) (by omega)]; omega⟩
   have eb : pre ++ (c.2.take (i + 1)).flatMap jq = pre ++ (c.2.take i).flatMap jq ++ nmB e.1 ++ [vk e.2] := by
    rw [htk, List.flatMap_append]
    simp [jq]
   rw [eb]
   exact ho10
  ·obtain rfl : i = c.2.length := by omega
   refine zc (decide_eq_false (by omega)) ?_
   rw [List.take_of_length_le (by omega)] at ho
   refine qI (e := 5) (by kernel_rfl) (by kernel_rfl) (by kernel_rfl) ho.sl ?_
   refine ⟨?_, he6⟩
   have : pre ++ c.2.flatMap jq = x6 c := by rw [<- hpre]; simp [x6]
   rw [this]
   rfl
end V
/- Contracts of the package catalog: the reader. -/
namespace V
open Go Go.Proofs Go.RowKit Crc
variable {w w' : World} {r : Nat} {st : Option (List UInt8)}
def yL (w : World) (r : Nat) (st : Option (List UInt8)) : Prop := match st with
 | some l => Blk w r [.string (mkB l), .int .i64 0] 92
 | none => ∃ s, Blk w r [.string s, .int .i64 240] 92
theorem yL.only {F : Nat -> Prop} (h : yL w r st) (k : Only F w w') (hr : ¬ F r) : yL w' r st := by
 cases st with
 | some l => exact Blk.only h k hr
 | none => obtain ⟨s, h⟩ := h; exact ⟨s, h.only k hr⟩
theorem yL.ext (h : yL w r st) (he : Ext w w') : yL w' r st := by
 cases st with
 | some l => exact Blk.ext h he
 | none => obtain ⟨s, h⟩ := h; exact ⟨s, h.ext he⟩
theorem zmF (l : List UInt8) (n : Nat) : (mkB l).extract 0 n = mkB (l.take n) := by
 apply ka
 rw [jy, xj, xj]; simp
theorem zmG (l : List UInt8) (n : Nat) : (mkB l).extract n (mkB l).size = mkB (l.drop n) := by
 apply ka
 rw [jy, xj, xj, xm]
 rw [List.take_of_length_le (by rw [List.length_drop]; omega)]
abbrev OnR (r : Nat) (w w' : World) : Prop := Only (fun k => k = r) w w'
def zbg (r : Nat) (w w' : World) (st' : Option (List UInt8)) : Prop := yL w' r st' /\ OnR r w w'
theorem kq (h : yL w r st) (n : Nat) : Calls Tryz.prog 108 #[.pointer (some ⟨r, 0, none⟩), .int .i64 (n : Int)] w (Ret fun v w' => v = .string (match st.bind (yd n) with | none => ByteArray.empty | some p => mkB p.1) /\ zbg r w w' ((st.bind (yd n)).map fun p => p.2)) := by
 apply zkZ
 unfold S108
 cases st with
 | none =>
  obtain ⟨s, hb⟩ := h
  refine yB (fun _ w' => w' = w) ?_ (fun J hJ => zs ?_)
  ·rintro _ _ rfl
   refine zs (zn 1 (240 : Int) hb (by rfl) (zf (by rfl) ?_))
   exact ⟨rfl, ⟨s, hb⟩, Only.refl _ _⟩
  ·exact zn 1 (240 : Int) hb (by rfl) (zc (by rfl) (hJ _ _ rfl))
 | some l =>
  have hb : Blk w r [.string (mkB l), .int .i64 0] 92 := h
  have hsz := xm l
  by_cases hn : l.length < n
  ·have ec : (some l).bind (yd n) = none := by show yd n l = none; unfold yd; rw [if_pos hn]
   rw [ec]
   refine yB (fun _ w' => Blk w' r [.string (mkB l), .int .i64 240] 92 /\ OnR r w w') ?_ (fun J hJ => zs ?_)
   ·rintro _ w1 ⟨h1, h2⟩
    refine zs (zn 1 (240 : Int) h1 (by rfl) (zf (by rfl) ?_))
    exact ⟨rfl, ⟨_, h1⟩, h2⟩
   ·refine zn 1 (0 : Int) hb (by rfl) (zf (by rfl) (zs ?_))
    refine zE (mkB l) hb (by rfl) (zf (decide_eq_true (by omega)) (zs ?_))
    refine stE (o := 1) hb (by rw [zz]) (by show 1 < 2; omega) ?_
    intro w1 h1 o1
    exact hJ _ _ ⟨h1, o1⟩
  ·have ec : (some l).bind (yd n) = some (l.take n, l.drop n) := by show yd n l = _; unfold yd; rw [if_neg hn]
   rw [ec]
   refine yB (fun _ w' => w' = w) ?_ (fun J hJ => zs ?_)
   ·rintro _ _ rfl
    refine zs (zn 1 (0 : Int) hb (by rfl) (zc (by rfl) (zs ?_)))
    refine zE (mkB l) hb (by rfl) (zJ ⟨by omega, by omega⟩ (zs ?_))
    refine zE (mkB l) hb (by rfl) (zJ ⟨by omega, by omega⟩ (zs ?_))
    rw [Int.toNat_natCast, zmF, zmG]
    refine stE (o := 0) hb rfl (by show 0 < 2; omega) ?_
    intro w1 h1 o1
    exact ⟨rfl, h1, o1⟩
   ·refine zn 1 (0 : Int) hb (by rfl) (zf (by rfl) (zs ?_))
    exact zE (mkB l) hb (by rfl) (zc (decide_eq_false (by omega)) (hJ _ _ rfl))
theorem zan (h : yL w r st) {n : Nat} (hn : n <= 8) : Calls Tryz.prog 44 #[.pointer (some ⟨r, 0, none⟩), .int .i64 (n : Int)] w (Ret fun v w' => v = .int .u64 ((match st.bind (yd n) with | none => 0 | some p => lev p.1 : Nat) : Int) /\ zbg r w w' ((st.bind (yd n)).map fun p => p.2)) := by
 apply znx
 unfold S44
 refine zb (kq h n) ?_
 rintro _ w1 ⟨rfl, h1, o1⟩
 refine ⟨_, rfl, ?_⟩
 have hlen : (match st.bind (yd n) with | none => ByteArray.empty | some p => mkB p.1).size <= 8 := by
  cases hq : st.bind (yd n) with
  | none => exact Nat.zero_le _
  | some p =>
   show (mkB p.1).size <= 8
   rw [xm]
   cases st with
   | none => cases hq
   | some l =>
    have := (xX (show yd n l = some (p.1, p.2) from hq)).1
    omega
 refine kN (u := .string) (e := 5) (by kernel_rfl) (by kernel_rfl) (by kernel_rfl) (by omega) ?_
 intro cc w2 hsl he2 hs2 hcc
 refine zb (qJ hsl hlen) ?_
 rintro _ w3 ⟨rfl, he3⟩
 refine ⟨_, rfl, ?_, h1.ext (he2.trans he3), Only.trans o1 (Only.zG (F := fun k => k = r) (he2.trans he3)) (fun j hj => .inl hj)⟩
 congr 1
 cases st.bind (yd n) with
 | none => rfl
 | some p => show ((lev (V.B (mkB p.1)) : Nat) : Int) = _; rw [xj]
theorem OnR.trans {r : Nat} {a b c : World} (h : OnR r a b) (k : OnR r b c) : OnR r a c := Only.trans h k (fun j hj => .inl hj)
theorem zgQ (h : yL w r st) : Calls Tryz.prog 45 #[.pointer (some ⟨r, 0, none⟩)] w (Ret fun v w' => v = .string (match st.bind nmR with | none => ByteArray.empty | some p => p.1) /\ zbg r w w' ((st.bind nmR).map fun p => p.2)) := by
 apply zny
 unfold S45
 refine zb (zan h (n := 1) (by omega)) ?_
 rintro _ w1 ⟨rfl, h1, o1⟩
 refine ⟨_, rfl, ?_⟩
 cases st with
 | none =>
  refine zb (kq h1 0) ?_
  rintro _ w2 ⟨rfl, h2, o2⟩
  exact ⟨_, rfl, rfl, h2, o1.trans o2⟩
 | some l =>
  show ze _ _ [_, .int .i64 (IntKind.wrap .i64 (((match yd 1 l with | none => 0 | some p => lev p.1 : Nat)) : Int))] _ _ w1
  have hn : (some l).bind nmR = nmR l := rfl
  rw [hn]
  unfold nmR
  have h1 : yL w1 r ((yd 1 l).map fun p => p.2) := h1
  cases hc : yd 1 l with
  | none =>
   rw [hc] at h1
   refine zb (kq h1 0) ?_
   rintro _ w2 ⟨rfl, h2, o2⟩
   exact ⟨_, rfl, rfl, h2, o1.trans o2⟩
  | some p =>
   obtain ⟨q, t⟩ := p
   rw [hc] at h1
   obtain ⟨c1, c2⟩ := xX hc
   have hlv : lev q < 256 := by
    have := jw q
    rw [c1] at this
    exact this
   dsimp only
   rw [wrap_i64 (by omega) (by omega)]
   refine zb (kq h1 (lev q)) ?_
   rintro _ w2 ⟨rfl, h2, o2⟩
   refine ⟨_, rfl, ?_⟩
   have e : ((some (q, t)).map fun p : List UInt8 × List UInt8 => p.2).bind (yd (lev q)) = yd (lev q) t := rfl
   rw [e] at h2 ⊢
   cases hc2 : yd (lev q) t with
   | none => rw [hc2] at h2; exact ⟨rfl, h2, o1.trans o2⟩
   | some p2 => rw [hc2] at h2; exact ⟨rfl, h2, o1.trans o2⟩
theorem zby (h : yL w r st) : Calls Tryz.prog 47 #[.pointer (some ⟨r, 0, none⟩)] w (Ret fun v w' => (∃ k : Nat, v = .int .u32 (k : Int) /\ ∀ p, st.bind jr = some p -> k = p.1) /\ zbg r w w' ((st.bind jr).map fun p => p.2)) := by
 apply znA
 unfold S47
 refine zb (zan h (n := 1) (by omega)) ?_
 rintro _ w1 ⟨rfl, h1, o1⟩
 refine ⟨_, rfl, zs ?_⟩
 cases st with
 | none =>
  obtain ⟨s, hb⟩ := h1
  refine zn 1 (240 : Int) hb (by rfl) (zc (by rfl) ?_)
  exact ⟨⟨0, by rfl, fun p hp => by cases hp⟩, ⟨s, hb⟩, o1⟩
 | some l =>
  have hn : (some l).bind jr = jr l := rfl
  rw [hn]
  have h1 : yL w1 r ((yd 1 l).map fun p => p.2) := h1
  show ldW _ _ _ w1
  unfold jr
  cases hc : yd 1 l with
  | none =>
   rw [hc] at h1
   obtain ⟨s, hb⟩ := h1
   refine zn 1 (240 : Int) hb (by rfl) (zc (by rfl) ?_)
   exact ⟨⟨0, by show Value.int .u32 (IntKind.wrap .u32 (((match yd 1 l with | none => 0 | some p => lev p.1 : Nat)) : Int)) = _; rw [hc]; rfl, fun p hp => by cases hp⟩, ⟨s, hb⟩, o1⟩
  | some p =>
   obtain ⟨q, t⟩ := p
   rw [hc] at h1
   have hb : Blk w1 r [.string (mkB t), .int .i64 0] 92 := h1
   obtain ⟨c1, c2⟩ := xX hc
   have hlv : lev q < 256 := by
    have := jw q
    rw [c1] at this
    exact this
   have ev : (match (some l).bind (yd 1) with | none => 0 | some p => lev p.1) = lev q := by show (match yd 1 l with | none => 0 | some p => lev p.1) = _; rw [hc]
   rw [ev, show IntKind.wrap .u32 ((lev q : Nat) : Int) = ((lev q : Nat) : Int) by rw [wrap_u32]; omega]
   refine zn 1 (0 : Int) hb (by rfl) (zf (by rfl) ?_)
   dsimp only
   by_cases h1' : lev q <= 1
   ·rw [if_pos h1']
    refine zc (decide_eq_false (by omega)) ?_
    exact ⟨⟨lev q, rfl, fun p hp => by cases hp; rfl⟩, hb, o1⟩
   ·rw [if_neg h1']
    refine zf (decide_eq_true (by omega)) (zs ?_)
    refine stE (o := 1) hb (by rw [zz]) (by show 1 < 2; omega) ?_
    intro w2 h2 o2
    exact ⟨⟨lev q, rfl, fun p hp => by cases hp⟩, ⟨_, h2⟩, o1.trans o2⟩
theorem zgR (h : yL w r st) (hr : r < w.heap.size) (hsz : ∀ l, st = some l -> l.length <= 1000000) : Calls Tryz.prog 46 #[.pointer (some ⟨r, 0, none⟩)] w (Ret fun v w' => (∃ x : SLC, v = .slice x.1 x.2.1 x.2.2 /\ ∀ p, st.bind xH = some p -> Owni xM 62 w' w.heap.size x.1 x.2.1 x.2.2 p.1) /\ zbg r w w' ((st.bind xH).map fun p => p.2)) := by
 apply znz
 unfold S46
 refine zs ?_
 cases st with
 | none =>
  obtain ⟨s, hb⟩ := h
  refine zn 1 (240 : Int) hb (by rfl) (zf (by rfl) ?_)
  exact ⟨⟨(none, 0, 0), rfl, fun p hp => by cases hp⟩, ⟨s, hb⟩, Only.refl _ _⟩
 | some l =>
  have hb : Blk w r [.string (mkB l), .int .i64 0] 92 := h
  have hn : (some l).bind xH = xH l := rfl
  rw [hn]
  refine zn 1 (0 : Int) hb (by rfl) (zc (by rfl) (zs ?_))
  refine zE (mkB l) hb (by rfl) ?_
  refine zb (zht (s := mkB l) (by rw [xm]; have := hsz l rfl; omega)) ?_
  rintro _ w1 ⟨u, rfl, hR⟩
  obtain ⟨hR, he1⟩ := hR
  rw [xj] at hR
  have hb1 := hb.ext he1
  cases hq : xH l with
  | none =>
   rw [hq] at hR
   have hR : u = ((none, 0, 0), ⟨#[]⟩, 171, ()) := hR
   subst hR
   refine ⟨_, rfl, zf (by rfl) (zs ?_)⟩
   refine stE (o := 1) hb1 (by rw [zz]) (by show 1 < 2; omega) ?_
   intro w2 h2 o2
   refine zs (stE (o := 0) h2 rfl (by show 0 < 2; omega) ?_)
   intro w3 h3 o3
   exact ⟨⟨(none, 0, 0), rfl, fun p hp => by cases hp⟩, ⟨_, h3⟩, (OnR.trans (Only.zG he1) o2).trans o3⟩
  | some p =>
   obtain ⟨cs, t⟩ := p
   rw [hq] at hR
   obtain ⟨a1, a2, a3⟩ := hR
   obtain ⟨u1, u2, u3, u4⟩ := u
   dsimp only at a1 a2 a3
   subst a2 a3
   refine ⟨(u1, ⟨t.toArray⟩, 0, ()), rfl, zc (by rfl) (zs ?_)⟩
   refine stE (o := 0) hb1 rfl (by show 0 < 2; omega) ?_
   intro w2 h2 o2
   refine ⟨⟨u1, rfl, fun p hp => ?_⟩, h2, OnR.trans (Only.zG he1) o2⟩
   cases hp
   exact a1.only o2 (fun j hj e => by have := a1.row j hj; have : j = r := e; omega)
end V
end Go.Proofs.YtplgodmmmppmeaaGreat
