/- Texts of mine, merged (wip/tool/mergep.py): KCat5, KCat6, KCat7, KCat8, KRef24, KBlob2, KBlob3, BlobL, KPut1, KPut2, KPut3, KPut4, KPut5, KGet1, KGet2, KGet3, KGet4, KGet5, KCopy, GoodE, KSt, L, L2, CatN, LF. -/
import Derived.Test.YtplgodmmmppmeaaGreatM5
import Derived.Test.YtplgodmmmppmeaaGreatM3
set_option linter.unusedVariables false
set_option linter.unusedSimpArgs false
namespace Go.Proofs.YtplgodmmmppmeaaGreat
/- Contracts of the package catalog: Read. -/
namespace V
open Go Go.Proofs Go.RowKit Crc
variable {w w' : World} {r : Nat} {st : Option (List UInt8)}
theorem zgS : jN Tryz.prog 22 44 (.agg #[.string ByteArray.empty, .slice none 0 0, .int .u32 0, .int .u64 0, .int .i64 0]) 5 64 := ⟨by kernel_rfl, by kernel_rfl, by kernel_rfl⟩
theorem zgT : jN Tryz.prog 23 46 (.agg #[.string ByteArray.empty, .int .u32 0]) 2 24 := ⟨by kernel_rfl, by kernel_rfl, by kernel_rfl⟩
structure xK (w : World) (B0 : Nat) (r : Raw) (e : Ent) : Prop where
 name : r.1 = e.1
 rest : r.2.2 = e.2.2
 cols : Owni xM 62 w B0 r.2.1.1 r.2.1.2.1 r.2.1.2.2 e.2.1
structure yS (w : World) (B0 : Nat) (x : SLC) (raws : List Raw) (es : List Ent) : Prop where
 row : Owni yn 44 w B0 x.1 x.2.1 x.2.2 raws
 len : raws.length = es.length
 at_ : ∀ i, i < es.length -> xK w B0 (raws.getD i yi) (es.getD i zS)
def yD (w : World) (B0 : Nat) (x y : SLC) (c : Cat) : Prop := (∃ raws, yS w B0 x raws c.1) /\ Owni xv 46 w B0 y.1 y.2.1 y.2.2 c.2
theorem yD.cat {B0 : Nat} {x y : SLC} {c : Cat} (h : yD w B0 x y c) : qA w x y c := by
 obtain ⟨⟨raws, h1⟩, h2⟩ := h
 exact ⟨⟨raws, h1.row.sl, h1.len, fun i hi => ⟨(h1.at_ i hi).name, (h1.at_ i hi).rest, (h1.at_ i hi).cols.sl, (h1.at_ i hi).cols.le.1⟩⟩, h2.sl, h1.row.le.1, h2.le.1⟩
theorem xK.only {F : Nat -> Prop} {B0 : Nat} {r : Raw} {e : Ent} (h : xK w B0 r e) (o : Only F w w') (hF : ∀ k, F k -> k < B0) : xK w' B0 r e :=
 ⟨h.name, h.rest, h.cols.only o (fun j hj hf => by have := h.cols.row j hj; have := hF j hf; omega)⟩
theorem xK.ext {B0 : Nat} {r : Raw} {e : Ent} (h : xK w B0 r e) (he : Ext w w') : xK w' B0 r e := ⟨h.name, h.rest, h.cols.ext he⟩
theorem xK.lower {B0 B1 : Nat} {r : Raw} {e : Ent} (h : xK w B0 r e) (hB : B1 <= B0) : xK w B1 r e := ⟨h.name, h.rest, h.cols.lower hB⟩
theorem yS.only {F : Nat -> Prop} {B0 : Nat} {x : SLC} {raws : List Raw} {es : List Ent} (h : yS w B0 x raws es) (o : Only F w w') (hF : ∀ k, F k -> k < B0) : yS w' B0 x raws es :=
 ⟨h.row.only o (fun j hj hf => by have := h.row.row j hj; have := hF j hf; omega), h.len, fun i hi => (h.at_ i hi).only o hF⟩
theorem yS.ext {B0 : Nat} {x : SLC} {raws : List Raw} {es : List Ent} (h : yS w B0 x raws es) (he : Ext w w') : yS w' B0 x raws es := ⟨h.row.ext he, h.len, fun i hi => (h.at_ i hi).ext he⟩
theorem yS.lower {B0 B1 : Nat} {x : SLC} {raws : List Raw} {es : List Ent} (h : yS w B0 x raws es) (hB : B1 <= B0) : yS w B1 x raws es := ⟨h.row.lower hB, h.len, fun i hi => (h.at_ i hi).lower hB⟩
theorem yD.ext {B0 : Nat} {x y : SLC} {c : Cat} (h : yD w B0 x y c) (he : Ext w w') : yD w' B0 x y c := by
 obtain ⟨⟨raws, h1⟩, h2⟩ := h
 exact ⟨⟨raws, h1.ext he⟩, h2.ext he⟩
theorem yD.only {F : Nat -> Prop} {B0 : Nat} {x y : SLC} {c : Cat} (h : yD w B0 x y c) (o : Only F w w') (hF : ∀ k, F k -> k < B0) : yD w' B0 x y c := by
 obtain ⟨⟨raws, h1⟩, h2⟩ := h
 exact ⟨⟨raws, h1.only o hF⟩, h2.only o (fun j hj hf => by have := h2.row j hj; have := hF j hf; omega)⟩
theorem yD.lower {B0 B1 : Nat} {x y : SLC} {c : Cat} (h : yD w B0 x y c) (hB : B1 <= B0) : yD w B1 x y c := by
 obtain ⟨⟨raws, h1⟩, h2⟩ := h
 exact ⟨⟨raws, h1.lower hB⟩, h2.lower hB⟩
theorem zei (w : World) (B0 : Nat) : yD w B0 (none, 0, 0) (none, 0, 0) za2 := ⟨⟨[], Owni.nil _ _ _, rfl, fun i hi => by cases hi⟩, Owni.nil _ _ _⟩
theorem zkv {l rr : List UInt8} {e : Ent} (h : jW l = some (e, rr)) : ∃ r1 r2 x r3 y r4, nmR l = some (e.1, r1) /\ xH r1 = some (e.2.1, r2) /\ yd 8 r2 = some (x, r3) /\ yd 4 r3 = some (y, r4) /\ jr r4 = some (e.2.2.1, rr) /\ e.2.2.2.1 = lev x /\ e.2.2.2.2 = (lev y : Int) := by
 unfold jW at h
 split at h
 ·cases h
 rename_i n r1 g1
 split at h
 ·cases h
 rename_i cs r2 g2
 split at h
 ·cases h
 rename_i x r3 g3
 split at h
 ·cases h
 rename_i y r4 g4
 split at h
 ·cases h
 rename_i o r5 g5
 injection h with h
 injection h with h1 h2
 subst h1 h2
 exact ⟨r1, r2, x, r3, y, r4, g1, g2, g3, g4, g5, rfl, rfl⟩
def sN (st : Option (List UInt8)) : Option (List UInt8) := (st.bind nmR).map fun p => p.2
def sC (st : Option (List UInt8)) : Option (List UInt8) := (st.bind xH).map fun p => p.2
def sK (n : Nat) (st : Option (List UInt8)) : Option (List UInt8) := (st.bind (yd n)).map fun p => p.2
def s1 (st : Option (List UInt8)) : Option (List UInt8) := (st.bind jr).map fun p => p.2
theorem zox (l : List UInt8) : s1 (sK 4 (sK 8 (sC (sN (some l))))) = (jW l).map fun p => p.2 := by
 unfold jW sN
 show s1 (sK 4 (sK 8 (sC ((nmR l).map fun p => p.2)))) = _
 cases nmR l with
 | none => rfl
 | some p1 =>
  dsimp only [Option.map]
  show s1 (sK 4 (sK 8 ((xH p1.2).map fun p => p.2))) = _
  cases xH p1.2 with
  | none => rfl
  | some p2 =>
   dsimp only [Option.map]
   show s1 (sK 4 ((yd 8 p2.2).map fun p => p.2)) = _
   cases yd 8 p2.2 with
   | none => rfl
   | some p3 =>
    dsimp only [Option.map]
    show s1 ((yd 4 p3.2).map fun p => p.2) = _
    cases yd 4 p3.2 with
    | none => rfl
    | some p4 =>
     dsimp only [Option.map]
     show (jr p4.2).map (fun p => p.2) = _
     cases jr p4.2 with
     | none => rfl
     | some p5 => rfl
theorem zkw {l rr : List UInt8} {e : Snp} (h : ku l = some (e, rr)) : ∃ r1, nmR l = some (e.1, r1) /\ jr r1 = some (e.2, rr) := by
 unfold ku at h
 split at h
 ·cases h
 rename_i n r1 g1
 split at h
 ·cases h
 rename_i o r2 g2
 injection h with h
 injection h with h1 h2
 subst h1 h2
 exact ⟨r1, g1, g2⟩
theorem zoy (l : List UInt8) : s1 (sN (some l)) = (ku l).map fun p => p.2 := by
 unfold ku sN
 show s1 ((nmR l).map fun p => p.2) = _
 cases nmR l with
 | none => rfl
 | some p1 =>
  dsimp only [Option.map]
  show (jr p1.2).map (fun p => p.2) = _
  cases jr p1.2 with
  | none => rfl
  | some p5 => rfl
theorem ziq {n : Nat} {l a t : List UInt8} (h : yd n l = some (a, t)) : t.length <= l.length := by
 have := (xX h).2
 rw [<- this, List.length_append]; omega
theorem zo7 {l t : List UInt8} {s : ByteArray} (h : nmR l = some (s, t)) : t.length <= l.length := by
 rw [<- zeF h, List.length_append]; omega
theorem zoz {l t : List UInt8} {e : Ent} (h : jW l = some (e, t)) : t.length <= l.length := by
 rw [<- (zme h).1, List.length_append]; omega
theorem zoA {l t : List UInt8} {e : Snp} (h : ku l = some (e, t)) : t.length <= l.length := by
 rw [<- (zmg h).1, List.length_append]; omega
def Left {α : Type} (f : List UInt8 -> Option (α × List UInt8)) (tot : Option (List α × List UInt8)) (j : Nat) (acc : List α) (l : List UInt8) : Prop := tot = (qy f j l).map fun p => (acc ++ p.1, p.2)
theorem Left.bad {α : Type} {f : List UInt8 -> Option (α × List UInt8)} {tot : Option (List α × List UInt8)} {j : Nat} {acc : List α} {l : List UInt8} (h : Left f tot (j + 1) acc l) (hf : f l = none) : tot = none := by
 unfold Left qy at h
 rw [hf] at h
 exact h
theorem Left.step {α : Type} {f : List UInt8 -> Option (α × List UInt8)} {tot : Option (List α × List UInt8)} {j : Nat} {acc : List α} {l t : List UInt8} {x : α} (h : Left f tot (j + 1) acc l) (hf : f l = some (x, t)) : Left f tot j (acc ++ [x]) t := by
 unfold Left qy at h
 rw [hf] at h
 dsimp only at h
 unfold Left
 rw [h]
 cases qy f j t with
 | none => rfl
 | some p => simp
theorem Left.done {α : Type} {f : List UInt8 -> Option (α × List UInt8)} {tot : Option (List α × List UInt8)} {acc : List α} {l : List UInt8} (h : Left f tot 0 acc l) : tot = some (acc, l) := by
 unfold Left qy at h
 rw [h]
 simp
theorem Left.init {α : Type} {f : List UInt8 -> Option (α × List UInt8)} {n : Nat} {l : List UInt8} : Left f (qy f n l) n [] l := by
 unfold Left
 cases qy f n l with
 | none => rfl
 | some p => rfl
end V
/- Contracts of the package catalog: Read. -/
namespace V
open Go Go.Proofs Go.RowKit Crc
variable {w w' : World} {r : Nat} {st : Option (List UInt8)}
theorem rdnum' (h : yL w r st) {n : Nat} (hn : n <= 8) : Calls Tryz.prog 44 #[.pointer (some ⟨r, 0, none⟩), .int .i64 (n : Int)] w (Ret fun v w' => (∃ k : Nat, v = .int .u64 (k : Int) /\ (∀ p, st.bind (yd n) = some p -> k = lev p.1) /\ (st.bind (yd n) = none -> k = 0)) /\ zbg r w w' (sK n st)) := by
 refine (zan h hn).mono (Ret.mono ?_)
 rintro v w' ⟨rfl, h⟩
 exact ⟨⟨_, rfl, fun p hp => by rw [hp], fun hp => by rw [hp]⟩, h⟩
theorem rdname' (h : yL w r st) : Calls Tryz.prog 45 #[.pointer (some ⟨r, 0, none⟩)] w (Ret fun v w' => (∃ s : ByteArray, v = .string s /\ ∀ p, st.bind nmR = some p -> s = p.1) /\ zbg r w w' (sN st)) := by
 refine (zgQ h).mono (Ret.mono ?_)
 rintro v w' ⟨rfl, h⟩
 exact ⟨⟨_, rfl, fun p hp => by rw [hp]⟩, h⟩
def zao (tot : Option (List Ent × List UInt8)) (z r1 r2 B0 : Nat) (j : Nat) (w : World) : Prop :=
 ∃ (x : SLC) (raws : List Raw) (st : Option (List UInt8)), Blk w r1 (zY x (none, 0, 0)) 25 /\ Owni yn 44 w B0 x.1 x.2.1 x.2.2 raws /\ x.2.1 + j <= 255 /\ yL w r2 st /\
  ((st = none /\ tot = none) \/ ∃ l acc, st = some l /\ l.length <= z /\ yS w B0 x raws acc /\ Left jW tot j acc l)
theorem zfn {α : Type} {l : List α} {x d : α} {i n : Nat} (hn : l.length = n) : (l ++ [x]).getD i d = if i < n then l.getD i d else if i = n then x else d := by
 simp only [List.getD_eq_getElem?_getD]
 by_cases h : i < n
 ·rw [if_pos h, List.getElem?_append_left (by omega)]
 ·rw [if_neg h, List.getElem?_append_right (by omega), hn]
  by_cases e : i = n
  ·subst e; simp
  ·rw [if_neg e, List.getElem?_eq_none (by simp; omega)]; rfl
theorem yS.snoc {B0 : Nat} {x : SLC} {A : Option Addr} {c : Nat} {raws : List Raw} {es : List Ent} {rw_ : Raw} {e : Ent} (h : yS w B0 x raws es) (hrow : Owni yn 44 w' B0 A (x.2.1 + 1) c (raws ++ [rw_])) (hold : ∀ i, i < es.length -> xK w' B0 (raws.getD i yi) (es.getD i zS)) (hn : xK w' B0 rw_ e) : yS w' B0 (A, x.2.1 + 1, c) (raws ++ [rw_]) (es ++ [e]) := by
 have hl := h.len
 refine ⟨hrow, by simp [hl], fun i hi => ?_⟩
 rw [zfn hl, zfn rfl]
 by_cases e1 : i < es.length
 ·rw [if_pos e1, if_pos e1]; exact hold i e1
 ·have : i = es.length := by simp at hi; omega
  rw [if_neg e1, if_neg e1, if_pos this, if_pos this]
  exact hn
theorem xK.grown {B0 : Nat} {r : Raw} {e : Ent} {A : Option Addr} {n c : Nat} {raws : List Raw} (h : xK w B0 r e) (ho : Owni yn 44 w B0 A n c raws) (hg : w.grownBy w' (orow A)) : xK w' B0 r e :=
 ⟨h.name, h.rest, h.cols.grown hg (fun j hj => ho.ne h.cols (by decide) j hj)⟩
theorem zjt {tot : Option (List Ent × List UInt8)} {z r1 r2 B0 j : Nat} {K : WP} (hz : z <= 1000000) (hr1 : r1 < B0) (hr2 : r2 < B0) (h12 : r1 ≠ r2) (h : zao tot z r1 r2 B0 (j + 1) w) (hB : B0 <= w.heap.size) {l0 : List UInt8} (hst : yL w r2 (some l0))
  (hK : ∀ w', zao tot z r1 r2 B0 j w' -> Only (fun k => k = r1 \/ k = r2 \/ B0 <= k) w w' -> K w') : (zA <|
  ldW .slc (aD r1) fun (u10 : SLC) =>
  ze Tryz.prog 45 [.pointer (some (aD r2))] (.one (.one .str)) fun (u11 : ByteArray) =>
  zq [[((aD r1), .slice u10.1 u10.2.1 u10.2.2)]] <|
  ze Tryz.prog 46 [.pointer (some (aD r2))] (.one (.one .slc)) fun (u12 : SLC) =>
  zq [[((aD r1), .slice u10.1 u10.2.1 u10.2.2)]] <|
  ze Tryz.prog 44 [.pointer (some (aD r2)), .int .i64 8] (.one (.one (.int .u64))) fun (u13 : Int) =>
  zq [[((aD r1), .slice u10.1 u10.2.1 u10.2.2)]] <|
  ze Tryz.prog 44 [.pointer (some (aD r2)), .int .i64 4] (.one (.one (.int .u64))) fun (u14 : Int) =>
  zq [[((aD r1), .slice u10.1 u10.2.1 u10.2.2)]] <|
  ze Tryz.prog 47 [.pointer (some (aD r2))] (.one (.one (.int .u32))) fun (u15 : Int) =>
  zq [[((aD r1), .slice u10.1 u10.2.1 u10.2.2)]] <|
  zi (.cells #[.string u11, .slice u12.1 u12.2.1 u12.2.2, .int .u32 u15, .int .u64 u13, .int .i64 (IntKind.wrap .i64 u14)] 44) fun (r16 : Nat) =>
  zq [[((aD r1), .slice u10.1 u10.2.1 u10.2.2)]] <|
  zw Tryz.prog (Builtin.append_ #[22, 22] 22 #[.slice u10.1 u10.2.1 u10.2.2, .slice (some (aD r16)) 1 1]) .slc fun (u17 : SLC) =>
  stW (aD r1) (.slice u17.1 u17.2.1 u17.2.2) K) w := by
 obtain ⟨x, raws, st, hb, hrow, hx, hR, hcase⟩ := h
 have hst' : st = some l0 := by
  cases st with
  | none =>
   obtain ⟨s, hs⟩ := hR
   have h1 : w.heap[r2]? = some _ := hs
   have h2 : w.heap[r2]? = some _ := hst
   rw [h1] at h2
   injection h2 with h2
   injection h2 with h2 _ _
   have := congrArg (fun a => a.toList[1]?) h2
   simp at this
  | some l1 =>
   have h1 : w.heap[r2]? = some _ := hR
   have h2 : w.heap[r2]? = some _ := hst
   rw [h1] at h2
   injection h2 with h2
   injection h2 with h2 _ _
   have := congrArg (fun a => a.toList[0]?) h2
   simp at this
   rw [show l1 = l0 from by have := congrArg V.B this; rwa [xj, xj] at this]
 subst hst'
 rcases hcase with ⟨e, _⟩ | ⟨l, acc, e, hlz, hT, hL⟩
 ·cases e
 obtain rfl : l0 = l := by injection e
 have hxl := hrow.len
 refine zK fun w1 he1 hz1 hh1 => ?_
 have hb := hb.ext he1
 refine zE x hb (by rfl) ?_
 have hO : ∀ {a c : World}, OnR r2 a c -> Only (fun k => k = r1 \/ k = r2 \/ B0 <= k) a c := fun o => o.mono (fun k hk => .inr (.inl hk))
 refine zb (rdname' (hR.ext he1)) ?_
 rintro _ w2 ⟨⟨nm, rfl, hnm⟩, h2, o2⟩
 refine ⟨_, rfl, ?_⟩
 have hb := hb.only o2 h12
 refine xC (z6 hb rfl) ?_
 have hs2 := o2.2.2.2.1
 have h2 : yL w2 r2 (sN (some l0)) := h2
 have hr2l : r2 < w2.heap.size := by omega
 have hle2 : ∀ q, sN (some l0) = some q -> q.length <= z := fun q hq => by
  have hq : (nmR l0).map (fun p => p.2) = some q := hq
  cases hn : nmR l0 with
  | none => rw [hn] at hq; cases hq
  | some p =>
   rw [hn] at hq
   cases hq
   show p.2.length <= z
   have : p.2.length <= l0.length := zo7 (s := p.1) hn
   omega
 refine zb (zgR h2 hr2l (fun q hq => by have := hle2 q hq; omega)) ?_
 rintro _ w3 ⟨⟨cx, rfl, hcx⟩, h3, o3⟩
 refine ⟨cx, rfl, ?_⟩
 have h3 : yL w3 r2 (sC (sN (some l0))) := h3
 have hb := hb.only o3 h12
 refine xC (z6 hb rfl) ?_
 have hs3 := o3.2.2.2.1
 refine zb (rdnum' h3 (n := 8) (by omega)) ?_
 rintro _ w4 ⟨⟨n8, rfl, hn8, _⟩, h4, o4⟩
 refine ⟨_, rfl, ?_⟩
 have h4 : yL w4 r2 (sK 8 (sC (sN (some l0)))) := h4
 have hb := hb.only o4 h12
 refine xC (z6 hb rfl) ?_
 have hs4 := o4.2.2.2.1
 refine zb (rdnum' h4 (n := 4) (by omega)) ?_
 rintro _ w5 ⟨⟨n4, rfl, hn4, _⟩, h5, o5⟩
 refine ⟨_, rfl, ?_⟩
 have h5 : yL w5 r2 (sK 4 (sK 8 (sC (sN (some l0))))) := h5
 have hb := hb.only o5 h12
 refine xC (z6 hb rfl) ?_
 have hs5 := o5.2.2.2.1
 refine zb (zby h5) ?_
 rintro _ w6 ⟨⟨k, rfl, hk⟩, h6, o6⟩
 refine ⟨_, rfl, ?_⟩
 have h6 : yL w6 r2 (s1 (sK 4 (sK 8 (sC (sN (some l0)))))) := h6
 rw [zox] at h6
 have hb := hb.only o6 h12
 refine xC (z6 hb rfl) ?_
 have hs6 := o6.2.2.2.1
 -- the tables so far
 have o26 : OnR r2 w2 w6 := ((o3.trans o4).trans o5).trans o6
 have o16 : OnR r2 w w6 := (OnR.trans (Only.zG he1) o2).trans o26
 have o36 : OnR r2 w3 w6 := (o4.trans o5).trans o6
 have hrow6 := hrow.only o16 (fun q hq e => by have := hrow.row q hq; have : q = r2 := e; omega)
 have hT6 := hT.only o16 (fun q hq => by have : q = r2 := hq; omega)
 refine zr fun r16 w7 hb7 he7 hr7 hz7 => ?_
 have hb := hb.ext he7
 refine xC (z6 hb rfl) ?_
 have hxx : Sli yn w7 (some ⟨r16, 0, none⟩) 1 [((nm, cx, k, n8, IntKind.wrap .i64 ((n4 : Nat) : Int)) : Raw)] := Sli.xJ (E := yn) (xs := [(nm, cx, k, n8, IntKind.wrap .i64 ((n4 : Nat) : Int))]) hb7 rfl (by omega)
 have hs7 := he7.size
 have hrow7 := hrow6.ext he7
 refine xi (E := yn) zgS hrow7 (by omega) hxx (by omega) (by omega) ?_
 intro A8 c8 w8 ho8 hg8 _
 have hs8 := hg8.grown.size
 have hr1r : orow x.1 ≠ some r1 := fun e => by have := hrow.row _ e; omega
 have hr2r : orow x.1 ≠ some r2 := fun e => by have := hrow.row _ e; omega
 have hb8 : Blk w8 r1 (zY x (none, 0, 0)) 25 := hb.grown hg8.grown (fun e => hr1r e.symm)
 refine stE (o := 0) hb8 rfl (by show 0 < 2; omega) ?_
 intro w9 hb9 o9
 have o78 : Only (fun q => orow x.1 = some q) w7 w8 := Only.z7 hg8.grown (fun q hq => .inl hq)
 have h9 : yL w9 r2 ((jW l0).map fun p => p.2) := ((h6.ext he7).only o78 hr2r).only o9 (fun e => h12 e.symm)
 have ho9 := ho8.only o9 (fun q hq e => by have := ho8.row q hq; have : q = r1 := e; omega)
 have hall : Only (fun q => q = r1 \/ q = r2 \/ B0 <= q) w w9 := by
  refine Only.trans (Only.trans (hO o16) (Only.zG (F := fun q => q = r1 \/ q = r2 \/ B0 <= q) he7) (fun q hq => .inl hq)) ?_ (fun q hq => .inl hq)
  refine Only.trans (F := fun q => q = r1 \/ q = r2 \/ B0 <= q) (o78.mono (fun q hq => .inr (.inr (hrow.row q hq)))) (o9.mono (fun q hq => .inl hq)) (fun q hq => .inl hq)
 refine hK w9 ⟨(A8, x.2.1 + 1, c8), _, _, hb9, ho9, by dsimp only; omega, h9, ?_⟩ hall
 cases he : jW l0 with
 | none => exact .inl ⟨rfl, hL.bad he⟩
 | some p =>
  obtain ⟨e, t⟩ := p
  refine .inr ⟨t, acc ++ [e], rfl, by have := zoz he; omega, ?_, hL.step he⟩
  obtain ⟨q1, q2, y1, q3, y2, q4, g1, g2, g3, g4, g5, g6, g7⟩ := zkv he
  have eN : sN (some l0) = some q1 := by show (nmR l0).map (fun p => p.2) = _; rw [g1]; rfl
  have eC : sC (sN (some l0)) = some q2 := by rw [eN]; show (xH q1).map (fun p => p.2) = _; rw [g2]; rfl
  have eK : sK 8 (sC (sN (some l0))) = some q3 := by rw [eC]; show (yd 8 q2).map (fun p => p.2) = _; rw [g3]; rfl
  have eK4 : sK 4 (sK 8 (sC (sN (some l0)))) = some q4 := by rw [eK]; show (yd 4 q3).map (fun p => p.2) = _; rw [g4]; rfl
  have enm : nm = e.1 := hnm (e.1, q1) g1
  have en8 : n8 = e.2.2.2.1 := by rw [g6]; exact hn8 (y1, q3) (by rw [eC]; exact g3)
  have en4 : n4 = lev y2 := hn4 (y2, q4) (by rw [eK]; exact g4)
  have ek : k = e.2.2.1 := by
   have := hk (e.2.2.1, t) (by rw [eK4]; exact g5)
   exact this
  have hy2 : lev y2 < 4294967296 := by
   have := jw y2
   rw [(xX g4).1] at this
   exact this
  have hcols := (hcx (e.2.1, q2) (by rw [eN]; exact g2))
  refine yS.snoc (w := w6) hT6 ho9 (fun i hi => ?_) ⟨enm, ?_, ?_⟩
  ·have h1 := ((hT6.at_ i hi).ext he7).grown hrow7 hg8.grown
   exact h1.only o9 (fun q hq => by have : q = r1 := hq; omega)
  ·show (k, n8, IntKind.wrap .i64 ((n4 : Nat) : Int)) = e.2.2
   rw [ek, en8, en4, wrap_i64 (by omega) (by omega), <- g7]
  ·have h1 := (hcols.lower (B' := B0) (by omega)).only o36 (fun q hq e => by have := hcols.row q hq; have : q = r2 := e; omega)
   have h2 := (h1.ext he7).grown hg8.grown (fun q hq => hrow7.ne (h1.ext he7) (by decide) q hq)
   exact h2.only o9 (fun q hq e => by have := h2.row q hq; have : q = r1 := e; omega)
end V
/- Contracts of the package catalog: Read. -/
namespace V
open Go Go.Proofs Go.RowKit Crc
variable {w w' : World} {r : Nat} {st : Option (List UInt8)}
theorem yL.zeR {l0 : List UInt8} (hR : yL w r st) (hst : yL w r (some l0)) : st = some l0 := by
 cases st with
 | none =>
  obtain ⟨s, hs⟩ := hR
  have h1 : w.heap[r]? = some _ := hs
  have h2 : w.heap[r]? = some _ := hst
  rw [h1] at h2
  injection h2 with h2
  injection h2 with h2 _ _
  have := congrArg (fun a => a.toList[1]?) h2
  simp at this
 | some l1 =>
  have h1 : w.heap[r]? = some _ := hR
  have h2 : w.heap[r]? = some _ := hst
  rw [h1] at h2
  injection h2 with h2
  injection h2 with h2 _ _
  have := congrArg (fun a => a.toList[0]?) h2
  simp at this
  rw [show l1 = l0 from by have := congrArg V.B this; rwa [xj, xj] at this]
theorem yS.zo8 {B0 : Nat} {x : SLC} {raws : List Raw} {es : List Ent} {A : Option Addr} {n c : Nat} {ss : List Snp} (h : yS w B0 x raws es) (ho : Owni xv 46 w B0 A n c ss) (hg : w.grownBy w' (orow A)) : yS w' B0 x raws es :=
 ⟨h.row.grown hg (fun j hj => ho.ne h.row (by decide) j hj), h.len, fun i hi => ⟨(h.at_ i hi).name, (h.at_ i hi).rest, (h.at_ i hi).cols.grown hg (fun j hj => ho.ne (h.at_ i hi).cols (by decide) j hj)⟩⟩
def zap (tot : Option (List Snp × List UInt8)) (es : List Ent) (z r1 r2 B0 : Nat) (j : Nat) (w : World) : Prop :=
 ∃ (x y : SLC) (ss : List Snp) (st : Option (List UInt8)), Blk w r1 (zY x y) 25 /\ Owni xv 46 w B0 y.1 y.2.1 y.2.2 ss /\ y.2.1 + j <= 255 /\ yL w r2 st /\
  ((st = none /\ tot = none) \/ ∃ l raws, st = some l /\ l.length <= z /\ yS w B0 x raws es /\ Left ku tot j ss l)
theorem zju {tot : Option (List Snp × List UInt8)} {es : List Ent} {z r1 r2 B0 j : Nat} {K : WP} (hz : z <= 1000000) (hr1 : r1 < B0) (hr2 : r2 < B0) (h12 : r1 ≠ r2) (h : zap tot es z r1 r2 B0 (j + 1) w) (hB : B0 <= w.heap.size) {l0 : List UInt8} (hst : yL w r2 (some l0))
  (hK : ∀ w', zap tot es z r1 r2 B0 j w' -> Only (fun k => k = r1 \/ k = r2 \/ B0 <= k) w w' -> K w') : (zA <|
  ldW .slc ((aD r1).add 1) fun (u10 : SLC) =>
  ze Tryz.prog 45 [.pointer (some (aD r2))] (.one (.one .str)) fun (u11 : ByteArray) =>
  zq [[((aD r1).add 1, .slice u10.1 u10.2.1 u10.2.2)]] <|
  ze Tryz.prog 47 [.pointer (some (aD r2))] (.one (.one (.int .u32))) fun (u15 : Int) =>
  zq [[((aD r1).add 1, .slice u10.1 u10.2.1 u10.2.2)]] <|
  zi (.cells #[.string u11, .int .u32 u15] 46) fun (r16 : Nat) =>
  zq [[((aD r1).add 1, .slice u10.1 u10.2.1 u10.2.2)]] <|
  zw Tryz.prog (Builtin.append_ #[23, 23] 23 #[.slice u10.1 u10.2.1 u10.2.2, .slice (some (aD r16)) 1 1]) .slc fun (u17 : SLC) =>
  stW ((aD r1).add 1) (.slice u17.1 u17.2.1 u17.2.2) K) w := by
 obtain ⟨x, y, ss, st, hb, hrow, hx, hR, hcase⟩ := h
 obtain rfl := hR.zeR hst
 rcases hcase with ⟨e, _⟩ | ⟨l, raws, e, hlz, hT, hL⟩
 ·cases e
 obtain rfl : l0 = l := by injection e
 have hxl := hrow.len
 refine zK fun w1 he1 hz1 hh1 => ?_
 have hb := hb.ext he1
 refine zn 1 y hb (by rfl) ?_
 refine zb (rdname' (hR.ext he1)) ?_
 rintro _ w2 ⟨⟨nm, rfl, hnm⟩, h2, o2⟩
 refine ⟨_, rfl, ?_⟩
 have hb := hb.only o2 h12
 refine xC (yK hb rfl) ?_
 have hs2 := o2.2.2.2.1
 refine zb (zby h2) ?_
 rintro _ w6 ⟨⟨k, rfl, hk⟩, h6, o6⟩
 refine ⟨_, rfl, ?_⟩
 have h6 : yL w6 r2 (s1 (sN (some l0))) := h6
 rw [zoy] at h6
 have hb := hb.only o6 h12
 refine xC (yK hb rfl) ?_
 have hs6 := o6.2.2.2.1
 have o16 : OnR r2 w w6 := (OnR.trans (Only.zG he1) o2).trans o6
 have hrow6 := hrow.only o16 (fun q hq e => by have := hrow.row q hq; have : q = r2 := e; omega)
 have hT6 := hT.only o16 (fun q hq => by have : q = r2 := hq; omega)
 refine zr fun r16 w7 hb7 he7 hr7 hz7 => ?_
 have hb := hb.ext he7
 refine xC (yK hb rfl) ?_
 have hxx : Sli xv w7 (some ⟨r16, 0, none⟩) 1 [((nm, k) : Snp)] := Sli.xJ (E := xv) (xs := [(nm, k)]) hb7 rfl (by omega)
 have hs7 := he7.size
 have hrow7 := hrow6.ext he7
 refine xi (E := xv) zgT hrow7 (by omega) hxx (by omega) (by omega) ?_
 intro A8 c8 w8 ho8 hg8 _
 have hs8 := hg8.grown.size
 have hr1r : orow y.1 ≠ some r1 := fun e => by have := hrow.row _ e; omega
 have hr2r : orow y.1 ≠ some r2 := fun e => by have := hrow.row _ e; omega
 have hb8 : Blk w8 r1 (zY x y) 25 := hb.grown hg8.grown (fun e => hr1r e.symm)
 refine stE (o := 1) hb8 (by rw [zz]) (by show 1 < 2; omega) ?_
 intro w9 hb9 o9
 have o78 : Only (fun q => orow y.1 = some q) w7 w8 := Only.z7 hg8.grown (fun q hq => .inl hq)
 have h9 : yL w9 r2 ((ku l0).map fun p => p.2) := ((h6.ext he7).only o78 hr2r).only o9 (fun e => h12 e.symm)
 have ho9 := ho8.only o9 (fun q hq e => by have := ho8.row q hq; have : q = r1 := e; omega)
 have hall : Only (fun q => q = r1 \/ q = r2 \/ B0 <= q) w w9 := by
  refine Only.trans (Only.trans (o16.mono (fun k hk => .inr (.inl hk))) (Only.zG (F := fun q => q = r1 \/ q = r2 \/ B0 <= q) he7) (fun q hq => .inl hq)) ?_ (fun q hq => .inl hq)
  refine Only.trans (F := fun q => q = r1 \/ q = r2 \/ B0 <= q) (o78.mono (fun q hq => .inr (.inr (hrow.row q hq)))) (o9.mono (fun q hq => .inl hq)) (fun q hq => .inl hq)
 refine hK w9 ⟨x, (A8, y.2.1 + 1, c8), _, _, hb9, ho9, by dsimp only; omega, h9, ?_⟩ hall
 cases he : ku l0 with
 | none => exact .inl ⟨rfl, hL.bad he⟩
 | some p =>
  obtain ⟨e, t⟩ := p
  obtain ⟨q1, g1, g5⟩ := zkw he
  have eN : sN (some l0) = some q1 := by show (nmR l0).map (fun p => p.2) = _; rw [g1]; rfl
  have enm : nm = e.1 := hnm (e.1, q1) g1
  have ek : k = e.2 := hk (e.2, t) (by rw [eN]; exact g5)
  have ee : ((nm, k) : Snp) = e := by rw [enm, ek]
  refine .inr ⟨t, raws, rfl, by have := zoA he; omega, ?_, by rw [ee]; exact hL.step he⟩
  exact ((hT6.ext he7).zo8 hrow7 hg8.grown).only o9 (fun q hq => by have : q = r1 := hq; omega)
theorem zao.rd {tot : Option (List Ent × List UInt8)} {z r1 r2 B0 j : Nat} (h : zao tot z r1 r2 B0 j w) : ∃ st, yL w r2 st /\ (st = none -> tot = none) := by
 obtain ⟨x, raws, st, hb, hrow, hx, hR, hcase⟩ := h
 refine ⟨st, hR, fun e => ?_⟩
 rcases hcase with ⟨_, h⟩ | ⟨l, acc, e', _⟩
 ·exact h
 ·rw [e] at e'; cases e'
theorem zap.rd {tot : Option (List Snp × List UInt8)} {es : List Ent} {z r1 r2 B0 j : Nat} (h : zap tot es z r1 r2 B0 j w) : ∃ st, yL w r2 st /\ (st = none -> tot = none) := by
 obtain ⟨x, y, ss, st, hb, hrow, hx, hR, hcase⟩ := h
 refine ⟨st, hR, fun e => ?_⟩
 rcases hcase with ⟨_, h⟩ | ⟨l, acc, e', _⟩
 ·exact h
 ·rw [e] at e'; cases e'
def jF (s : List UInt8) : Option (List Ent × List UInt8) := match yd 1 s with
 | none => none
 | some (b, r) => qy jW (lev b) r
def zck (t : Option (List Ent × List UInt8)) : Option (List Snp × List UInt8) := match t with
 | none => none
 | some (_, r) => match yd 1 r with
  | none => none
  | some (b, r') => qy ku (lev b) r'
theorem zdw (s : List UInt8) : zeD s = match jF s with
 | none => none
 | some (ts, r) => match zck (some (ts, r)) with
  | none => none
  | some (ss, r4) => if r4 = [] then some (ts, ss) else none := by
 unfold zeD jF zck
 cases yd 1 s with
 | none => rfl
 | some p =>
  obtain ⟨b, r⟩ := p
  dsimp only
  cases qy jW (lev b) r with
  | none => rfl
  | some q =>
   obtain ⟨ts, r2⟩ := q
   dsimp only
   cases yd 1 r2 with
   | none => rfl
   | some q2 => rfl
end V
/- Contracts of the package catalog: Read, whole. -/
namespace V
open Go Go.Proofs Go.RowKit Crc
variable {w w' : World}
theorem zkx (s : ByteArray) : (s.toList == (ByteArray.mk #[]).toList) = decide (B s = []) := by rw [qV]; rfl
theorem zao.out {tot : Option (List Ent × List UInt8)} {z r1 r2 B0 j : Nat} (h : zao tot z r1 r2 B0 j w) (hj : (∃ st, yL w r2 st /\ st = none) \/ j = 0) : zao tot z r1 r2 B0 0 w := by
 obtain ⟨x, raws, st, hb, hrow, hx, hR, hcase⟩ := h
 rcases hj with ⟨st', h1, rfl⟩ | rfl
 ·cases st with
  | none => exact ⟨x, raws, none, hb, hrow, by omega, hR, .inl ⟨rfl, by rcases hcase with ⟨_, h⟩ | ⟨l, acc, e', _⟩; exact h; cases e'⟩⟩
  | some l => exact absurd (h1.zeR hR) (by simp)
 ·exact ⟨x, raws, st, hb, hrow, hx, hR, hcase⟩
theorem zap.out {tot : Option (List Snp × List UInt8)} {es : List Ent} {z r1 r2 B0 j : Nat} (h : zap tot es z r1 r2 B0 j w) (hj : (∃ st, yL w r2 st /\ st = none) \/ j = 0) : zap tot es z r1 r2 B0 0 w := by
 obtain ⟨x, y, ss, st, hb, hrow, hx, hR, hcase⟩ := h
 rcases hj with ⟨st', h1, rfl⟩ | rfl
 ·cases st with
  | none => exact ⟨x, y, ss, none, hb, hrow, by omega, hR, .inl ⟨rfl, by rcases hcase with ⟨_, h⟩ | ⟨l, acc, e', _⟩; exact h; cases e'⟩⟩
  | some l => exact absurd (h1.zeR hR) (by simp)
 ·exact ⟨x, y, ss, st, hb, hrow, hx, hR, hcase⟩
theorem zfG {s : ByteArray} (hs : s.size <= 1000000) : Calls Tryz.prog 12 #[.string s] w (Ret fun v w' => (∃ x y, v = .tuple #[.agg (zY x y).toArray, .int .i64 (kj (B s)).2] /\ yD w' w.heap.size x y (kj (B s)).1) /\ Ext w w') := by
 apply zng
 unfold S12
 refine zr fun r1 w1 hb1 he1 hr1 hz1 => ?_
 refine zr fun r2 w2 hb2 he2 hr2 hz2 => ?_
 have hb1 : Blk w2 r1 (zY (none, 0, 0) (none, 0, 0)) 25 := hb1.ext he2
 have hR2 : yL w2 r2 (some (B s)) := by
  show Blk w2 r2 [.string (mkB (B s)), .int .i64 0] _
  rw [ziT]
  exact hb2
 have he02 := he1.trans he2
 have h12 : r1 ≠ r2 := by omega
 have hlen := yg s
 generalize hB0 : w2.heap.size = B0 at *
 have hr1B : r1 < B0 := by omega
 have hr2B : r2 < B0 := by omega
 have hup : ∀ {w8 : World}, Only (fun k => k = r1 \/ k = r2 \/ B0 <= k) w2 w8 -> Ext w w8 := fun o => Only.ext he02 o (fun j hj => by rcases hj with e | e | e <;> omega)
 -- the tables
 refine yB (fun _ w' => zao (jF (B s)) s.size r1 r2 B0 0 w' /\ Only (fun k => k = r1 \/ k = r2 \/ B0 <= k) w2 w') ?_ (fun J3 hJ3 => ?_)
 rotate_left
 ·refine zb (rdnum' hR2 (n := 1) (by omega)) ?_
  rintro _ w3 ⟨⟨n, rfl, hn, hn0⟩, h3, o3⟩
  refine ⟨_, rfl, ?_⟩
  have h3 : yL w3 r2 ((yd 1 (B s)).map fun p => p.2) := h3
  have hs3 := o3.2.2.2.1
  have hI : zao (jF (B s)) s.size r1 r2 B0 n w3 /\ n <= 255 := by
   cases hc : yd 1 (B s) with
   | none =>
    have := hn0 hc
    rw [hc] at h3
    subst this
    exact ⟨⟨(none, 0, 0), [], none, hb1.only o3 h12, Owni.nil _ _ _, by simp, h3, .inl ⟨rfl, by unfold jF; rw [hc]⟩⟩, by omega⟩
   | some p =>
    obtain ⟨q, t⟩ := p
    have e := hn (q, t) hc
    rw [hc] at h3
    have hlv : lev q < 256 := by
     have := jw q
     rw [(xX hc).1] at this
     exact this
    dsimp only at e
    refine ⟨⟨(none, 0, 0), [], some t, hb1.only o3 h12, Owni.nil _ _ _, by dsimp only; omega, h3, .inr ⟨t, [], rfl, by have := ziq hc; omega, ⟨Owni.nil _ _ _, rfl, fun i hi => by cases hi⟩, ?_⟩⟩, by omega⟩
    have : jF (B s) = qy jW n t := by unfold jF; rw [hc, e]
    rw [this]
    exact Left.init
  obtain ⟨hI, hn255⟩ := hI
  refine zx (fun y w' => ∃ j : Nat, j <= 255 /\ y = ((j : Int), ()) /\ zao (jF (B s)) s.size r1 r2 B0 j w' /\ Only (fun k => k = r1 \/ k = r2 \/ B0 <= k) w2 w' /\ B0 <= w'.heap.size) (fun y => y.1.toNat) ⟨n, hn255, rfl, hI, o3.mono (fun k hk => .inr (.inl hk)), by omega⟩ ?_
  rintro _ w4 ⟨j, hj, rfl, hI4, o4, hs4⟩
  dsimp only
  obtain ⟨st, hR4, _⟩ := hI4.rd
  by_cases h0 : j = 0
  ·subst h0
   exact zc (by rfl) (hJ3 _ _ ⟨hI4, o4⟩)
  ·refine zf (decide_eq_true (by omega)) (zs ?_)
   cases st with
   | none =>
    obtain ⟨s', hs'⟩ := id hR4
    exact zn 1 (240 : Int) hs' (by rfl) (zc (by rfl) (hJ3 _ _ ⟨hI4.out (.inl ⟨none, hR4, rfl⟩), o4⟩))
   | some l =>
    have hb4 : Blk w4 r2 [.string (mkB l), .int .i64 0] 92 := hR4
    obtain ⟨j, rfl⟩ : ∃ j', j = j' + 1 := ⟨j - 1, by omega⟩
    refine zn 1 (0 : Int) hb4 (by rfl) (zf (by rfl) ?_)
    refine zjt hs hr1B hr2B h12 hI4 hs4 hR4 fun w5 hI5 o5 => ?_
    have ew : IntKind.wrap .u64 (((j + 1 : Nat) : Int) - 1) = (j : Int) := by rw [show ((j + 1 : Nat) : Int) - 1 = ((j : Nat) : Int) by omega, zy (by omega)]
    have hs5 := o5.2.2.2.1
    exact ⟨⟨j, by omega, by rw [ew], hI5, Only.trans o4 o5 (fun k hk => .inl hk), by omega⟩, by rw [ew]; omega⟩
 rintro _ w3 ⟨hI, o3⟩
 obtain ⟨x, raws, st, hb3, hrow, hx, hR3, hcase⟩ := hI
 have hs3 := o3.2.2.2.1
 -- the snapshots
 refine yB (fun _ w' => ∃ es, zap (zck (jF (B s))) es s.size r1 r2 B0 0 w' /\ (∀ ts t, jF (B s) = some (ts, t) -> es = ts) /\ Only (fun k => k = r1 \/ k = r2 \/ B0 <= k) w2 w') ?_ (fun J18 hJ18 => ?_)
 rotate_left
 ·refine zb (rdnum' hR3 (n := 1) (by omega)) ?_
  rintro _ w4 ⟨⟨n, rfl, hn, hn0⟩, h4, o4⟩
  refine ⟨_, rfl, ?_⟩
  have hs4 := o4.2.2.2.1
  have hI : ∃ es, zap (zck (jF (B s))) es s.size r1 r2 B0 n w4 /\ (∀ ts t, jF (B s) = some (ts, t) -> es = ts) /\ n <= 255 := by
   rcases hcase with ⟨rfl, ht⟩ | ⟨l, acc, rfl, hlz, hT, hL⟩
   ·have := hn0 rfl
    subst this
    exact ⟨[], ⟨x, (none, 0, 0), [], none, hb3.only o4 h12, Owni.nil _ _ _, by simp, h4, .inl ⟨rfl, by rw [ht]; rfl⟩⟩, fun ts t h => (by rw [ht] at h; cases h), by omega⟩
   ·have ht := hL.done
    have h4 : yL w4 r2 ((yd 1 l).map fun p => p.2) := h4
    have hT4 := hT.only o4 (fun q hq => by have : q = r2 := hq; omega)
    refine ⟨acc, ?_⟩
    cases hc : yd 1 l with
    | none =>
     have := hn0 hc
     rw [hc] at h4
     subst this
     exact ⟨⟨x, (none, 0, 0), [], none, hb3.only o4 h12, Owni.nil _ _ _, by simp, h4, .inl ⟨rfl, by rw [ht]; unfold zck; dsimp only; rw [hc]⟩⟩, fun ts t h => by rw [ht] at h; cases h; rfl, by omega⟩
    | some p =>
     obtain ⟨q, t⟩ := p
     have e := hn (q, t) hc
     rw [hc] at h4
     have hlv : lev q < 256 := by
      have := jw q
      rw [(xX hc).1] at this
      exact this
     dsimp only at e
     refine ⟨⟨x, (none, 0, 0), [], some t, hb3.only o4 h12, Owni.nil _ _ _, by dsimp only; omega, h4, .inr ⟨t, raws, rfl, by have := ziq hc; omega, hT4, ?_⟩⟩, fun ts t h => by rw [ht] at h; cases h; rfl, by omega⟩
     have : zck (jF (B s)) = qy ku n t := by rw [ht]; unfold zck; dsimp only; rw [hc, e]
     rw [this]
     exact Left.init
  obtain ⟨es, hI, hes, hn255⟩ := hI
  refine zx (fun y w' => ∃ j : Nat, j <= 255 /\ y = ((j : Int), ()) /\ zap (zck (jF (B s))) es s.size r1 r2 B0 j w' /\ Only (fun k => k = r1 \/ k = r2 \/ B0 <= k) w2 w' /\ B0 <= w'.heap.size) (fun y => y.1.toNat) ⟨n, hn255, rfl, hI, Only.trans o3 (o4.mono (fun k hk => .inr (.inl hk))) (fun k hk => .inl hk), by omega⟩ ?_
  rintro _ w5 ⟨j, hj, rfl, hI5, o5, hs5⟩
  dsimp only
  obtain ⟨st', hR5, _⟩ := hI5.rd
  by_cases h0 : j = 0
  ·subst h0
   exact zc (by rfl) (hJ18 _ _ ⟨es, hI5, hes, o5⟩)
  ·refine zf (decide_eq_true (by omega)) (zs ?_)
   cases st' with
   | none =>
    obtain ⟨s', hs'⟩ := id hR5
    exact zn 1 (240 : Int) hs' (by rfl) (zc (by rfl) (hJ18 _ _ ⟨es, hI5.out (.inl ⟨none, hR5, rfl⟩), hes, o5⟩))
   | some l =>
    have hb5 : Blk w5 r2 [.string (mkB l), .int .i64 0] 92 := hR5
    obtain ⟨j, rfl⟩ : ∃ j', j = j' + 1 := ⟨j - 1, by omega⟩
    refine zn 1 (0 : Int) hb5 (by rfl) (zf (by rfl) ?_)
    refine zju hs hr1B hr2B h12 hI5 hs5 hR5 fun w6 hI6 o6 => ?_
    have ew : IntKind.wrap .u64 (((j + 1 : Nat) : Int) - 1) = (j : Int) := by rw [show ((j + 1 : Nat) : Int) - 1 = ((j : Nat) : Int) by omega, zy (by omega)]
    have hs6 := o6.2.2.2.1
    exact ⟨⟨j, by omega, by rw [ew], hI6, Only.trans o5 o6 (fun k hk => .inl hk), by omega⟩, by rw [ew]; omega⟩
 rintro _ w4 ⟨es, hI, hes, o4⟩
 obtain ⟨x, y, ss, st, hb4, hrow, hx, hR4, hcase⟩ := hI
 have he4 := hup o4
 have hs4 := o4.2.2.2.1
 have bad : ∀ {w5 : World}, Blk w5 r1 (zY x y) 25 -> Ext w w5 -> kj (B s) = (za2, 240) -> (zd ((#[.slice none 0 0, .slice none 0 0] : Array Value).size = 2) <| zt (aD r1) [.slice none 0 0, .slice none 0 0] <| zk [.slc, .slc] (aD r1) fun (u : SLC × SLC × Unit) => fun w' => (∃ x y, Value.tuple #[.agg #[.slice u.1.1 u.1.2.1 u.1.2.2, .slice u.2.1.1 u.2.1.2.1 u.2.1.2.2], .int .i64 240] = .tuple #[.agg (zY x y).toArray, .int .i64 (kj (B s)).2] /\ yD w' w.heap.size x y (kj (B s)).1) /\ Ext w w') w5 := by
  intro w5 hb5 he5 hk
  refine refill (vs := zY (none, 0, 0) (none, 0, 0)) hb5 (by rfl) (qk _ _) (by rfl) ?_
  intro w6 hb6 hx6 hk6 hz6
  refine zW (ls := xV) (xZ (none, 0, 0) (none, 0, 0)) hb6 (by rfl) ?_
  rw [hk]
  exact ⟨⟨_, _, rfl, zei _ _⟩, hx6 w he5 (by omega)⟩
 refine zs ?_
 rcases hcase with ⟨rfl, ht⟩ | ⟨l, raws', rfl, hlz, hT, hL⟩
 ·obtain ⟨s', hs'⟩ := hR4
  refine zn 1 (240 : Int) hs' (by rfl) (zf (by rfl) ?_)
  refine bad hb4 he4 ?_
  unfold kj
  rw [zdw]
  cases hq : jF (B s) with
  | none => rfl
  | some p => rw [hq] at ht; dsimp only; rw [ht]
 have hb42 : Blk w4 r2 [.string (mkB l), .int .i64 0] 92 := hR4
 refine zn 1 (0 : Int) hb42 (by rfl) (zc (by rfl) (zs ?_))
 refine zE (mkB l) hb42 (by rfl) ?_
 have ht := hL.done
 obtain ⟨t0, ht0⟩ : ∃ t0, jF (B s) = some (es, t0) := by
  cases hq : jF (B s) with
  | none => rw [hq] at ht; cases ht
  | some p =>
   obtain ⟨p1, p2⟩ := p
   exact ⟨p2, by rw [hes p1 p2 hq]⟩
 rw [ht0] at ht
 rw [zkx]
 by_cases hl : l = []
 ·subst hl
  refine zc (by rfl) ?_
  refine zW (ls := xV) (xZ x y) hb4 (by rfl) ?_
  have hrd : zeD (B s) = some (es, ss) := by
   rw [zdw, ht0]
   dsimp only
   rw [ht]
   dsimp only
   rw [if_pos rfl]
  have hown : yD w4 B0 x y (es, ss) := ⟨⟨raws', hT⟩, hrow⟩
  refine zb (jT hown.cat) ?_
  rintro _ w5 ⟨rfl, he5⟩
  refine ⟨_, rfl, ?_⟩
  have hb5 := hb4.ext he5
  have he05 := he4.trans he5
  cases hok : kg (es, ss) with
  | false =>
   refine zf (by rfl) (bad hb5 he05 ?_)
   unfold kj
   rw [hrd]
   dsimp only
   rw [hok]; rfl
  | true =>
   refine zc (by rfl) ?_
   refine zW (ls := xV) (xZ x y) hb5 (by rfl) ?_
   refine refill (vs := zY x y) hb5 (by rfl) (qk _ _) (by rfl) ?_
   intro w6 hb6 hx6 hk6 hz6
   have he6 := hx6 w he05 (by omega)
   refine zW (ls := xV) (xZ x y) hb6 (by rfl) ?_
   have hk : kj (B s) = ((es, ss), 0) := by
    unfold kj
    rw [hrd]
    dsimp only
    rw [hok]; rfl
   rw [hk]
   refine ⟨⟨x, y, rfl, ((hown.ext he5).only (F := fun k => k = r1) ⟨he6.os.trans he05.os.symm, he6.tape.trans he05.tape.symm, he6.output.trans he05.output.symm, Nat.le_of_eq hz6.symm, fun k _ hk => hk6 k hk⟩ (fun k hk => by omega)).lower (by have := he02.size; omega)⟩, he6⟩
 ·refine zf (by rw [decide_eq_false (by rw [xj]; exact hl)]; rfl) (bad hb4 he4 ?_)
  unfold kj
  rw [zdw, ht0]
  dsimp only
  rw [ht]
  dsimp only
  rw [if_neg hl]
end V
/- Contracts of the package shadowbookref24: Same. -/
namespace V
open Go Go.Proofs Go.RowKit Crc
variable {w w' : World}
def zej (a b : Snp) : Bool := decide (B a.1 = B b.1) && (((a.2 : Int) == (b.2 : Int)) && true)
theorem zfo {a b : Snp} : zej a b = true ↔ a = b := by
 unfold zej
 simp only [Bool.and_eq_true, decide_eq_true_eq, beq_iff_eq, and_true]
 constructor
 ·rintro ⟨h1, h2⟩
  exact Prod.ext (ka h1) (by omega)
 ·rintro rfl
  exact ⟨rfl, rfl⟩
theorem zjv (w : World) (a b : Snp) : (Op.eqFields 9999 #[.string a.1, .int .u32 (a.2 : Int)] #[.string b.1, .int .u32 (b.2 : Int)] (Tryz.prog.fieldsOf 46).toList).run Tryz.prog w = .ok (zej a b) w := by
 have hf : (Tryz.prog.fieldsOf 46).toList = [(Tryz.prog.fieldsOf 46).getD 0 default, (Tryz.prog.fieldsOf 46).getD 1 default] := by kernel_rfl
 rw [hf]
 unfold zej
 rw [<- qV]
 refine xW (of_decide_eq_true (by kernel_rfl)) (a := .string a.1) (b := .string b.1) (by kernel_rfl) (by kernel_rfl) (run_equalIn_string w 9998 _ _ _ (by kernel_rfl)) ?_
 refine xW (of_decide_eq_true (by kernel_rfl)) (a := .int .u32 (a.2 : Int)) (b := .int .u32 (b.2 : Int)) (by kernel_rfl) (by kernel_rfl) (run_equalIn_int w 9998 _ .u32 .u32 _ _ (by kernel_rfl)) ?_
 rfl
theorem zoB (w : World) (a b : Snp) (x y : Operand) : (eqS .neq 46 x y (.agg #[.string a.1, .int .u32 (a.2 : Int)]) (.agg #[.string b.1, .int .u32 (b.2 : Int)])).run Tryz.prog w = .ok (.bool (!(zej a b))) w :=
 zez (by kernel_rfl) (by kernel_rfl) (by kernel_rfl) (zjv w a b)
theorem jU {a : Addr} {r : Raw} (h : yR w a 0 (yn.f r)) : HL w [(a.add 0, .string r.1), (a.add 1, .slice r.2.1.1 r.2.1.2.1 r.2.1.2.2), (a.add 2, .int .u32 (r.2.2.1 : Int)), (a.add 3, .int .u64 (r.2.2.2.1 : Int)), (a.add 4, .int .i64 r.2.2.2.2)] := by
 obtain ⟨h0, h1, h2, h3, h4, _⟩ := h
 intro p hp
 simp only [List.mem_cons, List.not_mem_nil, or_false] at hp
 rcases hp with rfl | rfl | rfl | rfl | rfl
 ·exact h0
 ·exact h1
 ·exact h2
 ·exact h3
 ·exact h4
theorem yR.ext {a : Addr} : ∀ {vs : List Value} {i : Nat}, yR w a i vs -> Ext w w' -> yR w' a i vs
 | [], _, _, _ => trivial
 | _ :: _, _, h, he => ⟨he.cell h.1, yR.ext h.2 he⟩
theorem hl4 {a b c d : List (Addr × Value)} {K : WP} (ha : HL w a) (hb : HL w b) (hc : HL w c) (hd : HL w d) (hK : K w) : zq [a, b, c, d] K w := heldc ha (heldc hb (heldc hc (heldc hd (zpk hK))))
theorem zmX {α : Type} {l : List α} {i : Nat} {d : α} (h : i < l.length) : l.take (i + 1) = l.take i ++ [l.getD i d] := by
 rw [List.take_succ_eq_append_getElem h, List.getD_eq_getElem?_getD, List.getElem?_eq_getElem h]; rfl
theorem zek {x y x2 y2 : SLC} {c c2 : Cat} (h : qA w x y c) (h2 : qA w x2 y2 c2) :
  Calls Tryz.prog 13 #[.agg (zY x y).toArray, .agg (zY x2 y2).toArray] w (Ret fun v w' => (∃ b : Bool, v = .bool b /\ (b = true ↔ c = c2)) /\ Ext w w') := by
 obtain ⟨⟨ra, hA⟩, sA, _⟩ := h
 obtain ⟨⟨rb, hB⟩, sB, _⟩ := h2
 have a1 := hA.sl.len
 have a2 := hA.len
 have a3 := sA.len
 have a4 := hA.sl.le
 have a5 := sA.le
 have b1 := hB.sl.len
 have b2 := hB.len
 have b3 := sB.len
 apply znh
 unfold S13
 refine zr fun r1 w1 hb1 he1 hr1 hz1 => ?_
 refine zr fun r2 w2 hb2 he2 hr2 hz2 => ?_
 have hb1 : Blk w2 r1 (zY x y) 25 := hb1.ext he2
 have hb2 : Blk w2 r2 (zY x2 y2) 25 := hb2
 have he02 := he1.trans he2
 have no : ∀ {w5 : World}, Ext w w5 -> c ≠ c2 -> (fun v w' => (∃ b : Bool, v = Value.bool b /\ (b = true ↔ c = c2)) /\ Ext w w') (Value.bool false) w5 := fun he hne => ⟨⟨false, rfl, by simp [hne]⟩, he⟩
 refine zE x hb1 (by rfl) (zE x2 hb2 (by rfl) ?_)
 by_cases hl : x.2.1 = x2.2.1
 ·refine zc (bne_eq_false_iff_eq.2 (by omega)) ?_
  refine zn 1 y hb1 (by rfl) (zn 1 y2 hb2 (by rfl) ?_)
  by_cases hl2 : y.2.1 = y2.2.1
  ·refine zc (bne_eq_false_iff_eq.2 (by omega)) ?_
   refine zx (fun t w' => ∃ i : Nat, i <= x.2.1 /\ t = ((i : Int), ()) /\ Ext w2 w' /\ c.1.take i = c2.1.take i) (fun t => (x.2.1 - t.1).toNat) ⟨0, by omega, rfl, Ext.refl _, rfl⟩ ?_
   rintro _ w3 ⟨i, hi, rfl, he3, ht⟩
   dsimp only
   have hb13 := hb1.ext he3
   have hb23 := hb2.ext he3
   have he03 := he02.trans he3
   refine zE x hb13 (by rfl) ?_
   by_cases hlt : i < x.2.1
   ·refine zf (decide_eq_true (by omega)) ?_
    refine zK fun w4 he4 hz4 hh4 => ?_
    have hb14 := hb13.ext he4
    have hb24 := hb23.ext he4
    have he04 := he03.trans he4
    have ga : ra[i]? = some (ra.getD i yi) := by rw [List.getD_eq_getElem?_getD, List.getElem?_eq_getElem (by omega)]; rfl
    have gb : rb[i]? = some (rb.getD i yi) := by rw [List.getD_eq_getElem?_getD, List.getElem?_eq_getElem (by omega)]; rfl
    have eA := (hA.at_ i (by omega)).ext he04
    have eB := (hB.at_ i (by omega)).ext he04
    have tA : c.1.take (i + 1) = c.1.take i ++ [c.1.getD i zS] := zmX (by omega)
    have tB : c2.1.take (i + 1) = c2.1.take i ++ [c2.1.getD i zS] := zmX (by omega)
    have hne : c.1.getD i zS ≠ c2.1.getD i zS -> c ≠ c2 := fun h e => h (by rw [e])
    generalize ra.getD i yi = p at *
    generalize rb.getD i yi = q at *
    generalize c.1.getD i zS = ea at *
    generalize c2.1.getD i zS = eb at *
    refine zE x hb14 (by rfl) ?_
    refine xS (hA.sl.ext he04) (by omega) (x := p) (by rw [Int.toNat_natCast]; exact ga) rfl ?_
    intro pa hpa hca
    refine qv (ls := zd9) (x := za7 p) hca ?_
    refine zE x2 hb24 (by rfl) ?_
    refine xS (hB.sl.ext he04) (by omega) (x := q) (by rw [Int.toNat_natCast]; exact gb) rfl ?_
    intro pb hpb hcb
    refine qv (ls := zd9) (x := za7 q) hcb ?_
    have hw : IntKind.wrap .i64 ((i : Int) + 1) = ((i + 1 : Nat) : Int) := by rw [wrap_i64 (by omega) (by omega)]; rfl
    rw [hw]
    refine ⟨?a, ?b⟩
    case' a =>
     refine zr fun rX w5 hX he5 hr5 hz5 => ?_
     refine hl4 (jU (hcb.ext he5)) (z6 (hb24.ext he5) rfl) (jU (hca.ext he5)) (z6 (hb14.ext he5) rfl) ?_
     refine zr fun rY w6 hY he6 hr6 hz6 => ?_
     have he56 := he5.trans he6
     refine hl4 (jU (hcb.ext he56)) (z6 (hb24.ext he56) rfl) (jU (hca.ext he56)) (z6 (hb14.ext he56) rfl) ?_
     have hX := hX.ext he6
    case' b =>
     refine zr fun rY w5 hY he5 hr5 hz5 => ?_
     refine hl4 (jU (hcb.ext he5)) (z6 (hb24.ext he5) rfl) (jU (hca.ext he5)) (z6 (hb14.ext he5) rfl) ?_
     refine zr fun rX w6 hX he6 hr6 hz6 => ?_
     have he56 := he5.trans he6
     refine hl4 (jU (hcb.ext he56)) (z6 (hb24.ext he56) rfl) (jU (hca.ext he56)) (z6 (hb14.ext he56) rfl) ?_
     have hY := hY.ext he6
    all_goals
     have he06 := he04.trans he56
     have hs04 := he04.size
     refine refill (vs := yn.f p) hX (by rfl) (yn.one _) (by rfl) ?_
     intro w7 hX7 hx7 hk7 hz7
     have he7 : Ext w4 w7 := hx7 w4 he56 (by have := he5.size; omega)
     have hY7 : Blk w7 rY _ _ := (hk7 rY (by omega)).trans hY
     refine jo (jU (hcb.ext he7)) (z6 (hb24.ext he7) rfl) ?_
     refine refill (vs := yn.f q) hY7 (by rfl) (yn.one _) (by rfl) ?_
     intro w8 hY8 hx8 hk8 hz8
     have he8 : Ext w4 w8 := hx8 w4 he7 (by have := he5.size; omega)
     have hX8 : Blk w8 rX (yn.f p) 44 := (hk8 rX (by omega)).trans hX7
     have he08 := he04.trans he8
     have q1 : p.2.2.1 = ea.2.2.1 := by rw [eA.rest]
     have q2 : p.2.2.2.1 = ea.2.2.2.1 := by rw [eA.rest]
     have q3 : p.2.2.2.2 = ea.2.2.2.2 := by rw [eA.rest]
     have q4 : q.2.2.1 = eb.2.2.1 := by rw [eB.rest]
     have q5 : q.2.2.2.1 = eb.2.2.2.1 := by rw [eB.rest]
     have q6 : q.2.2.2.2 = eb.2.2.2.2 := by rw [eB.rest]
     have q7 := eA.cols.len
     have q8 := eB.cols.len
     have q9 := eA.cols.le
     refine zE p.1 hX8 (by rfl) (zE q.1 hY8 (by rfl) ?_)
     rw [eA.name, eB.name, qV]
     refine zg (fun hq => no he08 (hne (fun e => by rw [e] at hq; simp at hq))) (fun hq => ?_)
     have n1 : ea.1 = eb.1 := ka (by simpa using hq)
     refine zn 2 ((p.2.2.1 : Nat) : Int) hX8 (by rfl) (zn 2 ((q.2.2.1 : Nat) : Int) hY8 (by rfl) ?_)
     refine zg (fun hq => no he08 (hne (fun e => by have := bne_iff_ne.1 hq; rw [q1, q4, e] at this; exact this rfl))) (fun hq => ?_)
     have n2 : p.2.2.1 = q.2.2.1 := by have := bne_eq_false_iff_eq.1 hq; omega
     refine zn 3 ((p.2.2.2.1 : Nat) : Int) hX8 (by rfl) (zn 3 ((q.2.2.2.1 : Nat) : Int) hY8 (by rfl) ?_)
     refine zg (fun hq => no he08 (hne (fun e => by have := bne_iff_ne.1 hq; rw [q2, q5, e] at this; exact this rfl))) (fun hq => ?_)
     have n3 : p.2.2.2.1 = q.2.2.2.1 := by have := bne_eq_false_iff_eq.1 hq; omega
     refine zn 4 p.2.2.2.2 hX8 (by rfl) (zn 4 q.2.2.2.2 hY8 (by rfl) ?_)
     refine zg (fun hq => no he08 (hne (fun e => by have := bne_iff_ne.1 hq; rw [q3, q6, e] at this; exact this rfl))) (fun hq => ?_)
     have n4 : p.2.2.2.2 = q.2.2.2.2 := bne_eq_false_iff_eq.1 hq
     refine zn 1 p.2.1 hX8 (by rfl) (zn 1 q.2.1 hY8 (by rfl) ?_)
     refine zg (fun hq => no he08 (hne (fun e => by have := bne_iff_ne.1 hq; rw [e] at q7; omega))) (fun hq => ?_)
     have n5 : p.2.1.2.1 = q.2.1.2.1 := by have := bne_eq_false_iff_eq.1 hq; omega
     refine zx (fun t w' => ∃ j : Nat, j <= p.2.1.2.1 /\ t = ((j : Int), ()) /\ Ext w8 w' /\ ea.2.1.take j = eb.2.1.take j) (fun t => (p.2.1.2.1 - t.1).toNat) ⟨0, by omega, rfl, Ext.refl _, rfl⟩ ?_
     rintro _ w9 ⟨j, hj, rfl, he9, htj⟩
     dsimp only
     refine zn 1 p.2.1 (hX8.ext he9) (by rfl) ?_
     by_cases hltj : j < p.2.1.2.1
     ·refine zf (decide_eq_true (by omega)) ?_
      refine zK fun w10 he10 hz10 hh10 => ?_
      have he910 := he9.trans he10
      have he410 := he8.trans he910
      refine zn 1 p.2.1 (hX8.ext he910) (by rfl) ?_
      have g1 : ea.2.1[j]? = some (ea.2.1[j]'(by omega)) := List.getElem?_eq_getElem (by omega)
      have g2 : eb.2.1[j]? = some (eb.2.1[j]'(by omega)) := List.getElem?_eq_getElem (by omega)
      have t1 : ea.2.1.take (j + 1) = ea.2.1.take j ++ [ea.2.1[j]'(by omega)] := List.take_succ_eq_append_getElem (by omega)
      have t2 : eb.2.1.take (j + 1) = eb.2.1.take j ++ [eb.2.1[j]'(by omega)] := List.take_succ_eq_append_getElem (by omega)
      have hnc : ea.2.1[j]'(by omega) ≠ eb.2.1[j]'(by omega) -> c ≠ c2 := fun h => hne (fun e => h (by
       have e2 : ea.2.1 = eb.2.1 := by rw [e]
       simp only [e2]))
      generalize ea.2.1[j]'(by omega) = ca at *
      generalize eb.2.1[j]'(by omega) = cb at *
      refine xS (eA.cols.ext he410) (by omega) (x := ca) (by rw [Int.toNat_natCast]; exact g1) rfl ?_
      intro pc hpc hcc
      refine qv (ls := [.str, (.int .i64), .bool]) (x := (ca.1, ca.2.1, ca.2.2, ())) hcc ?_
      refine zn 1 q.2.1 (hY8.ext he910) (by rfl) ?_
      refine xS (eB.cols.ext he410) (by omega) (x := cb) (by rw [Int.toNat_natCast]; exact g2) rfl ?_
      intro pd hpd hcd
      refine qv (ls := [.str, (.int .i64), .bool]) (x := (cb.1, cb.2.1, cb.2.2, ())) hcd ?_
      refine ⟨_, fun w' => zoc w' ca cb _ _, ?_⟩
      refine zg (fun hq => no (he08.trans he910) (hnc (fun e => by rw [ze9.2 e] at hq; cases hq))) (fun hq => ?_)
      have n6 : ca = cb := ze9.1 (by simpa using hq)
      exact ⟨⟨j + 1, by omega, by rw [wrap_i64 (by omega) (by omega)]; rfl, he910, by rw [t1, t2, htj, n6]⟩, by rw [wrap_i64 (by omega) (by omega)]; omega⟩
     ·refine zc (decide_eq_false (by omega)) ?_
      have n7 : ea.2.1 = eb.2.1 := by
       rw [List.take_of_length_le (by omega), List.take_of_length_le (by omega)] at htj
       exact htj
      have n8 : ea = eb := Prod.ext n1 (Prod.ext n7 (by rw [<- eA.rest, <- eB.rest]; exact Prod.ext n2 (Prod.ext n3 n4)))
      exact ⟨⟨i + 1, by omega, rfl, (he3.trans he4).trans (he8.trans he9), by rw [tA, tB, ht, n8]⟩, by omega⟩
   ·refine zc (decide_eq_false (by omega)) ?_
    have n1 : c.1 = c2.1 := by
     rw [List.take_of_length_le (by omega), List.take_of_length_le (by omega)] at ht
     exact ht
    refine zx (fun t w' => ∃ i : Nat, i <= y.2.1 /\ t = ((i : Int), ()) /\ Ext w2 w' /\ c.2.take i = c2.2.take i) (fun t => (y.2.1 - t.1).toNat) ⟨0, by omega, rfl, he3, rfl⟩ ?_
    rintro _ w4 ⟨j, hj, rfl, he4, htj⟩
    dsimp only
    refine zn 1 y (hb1.ext he4) (by rfl) ?_
    by_cases hltj : j < y.2.1
    ·refine zf (decide_eq_true (by omega)) ?_
     refine zK fun w5 he5 hz5 hh5 => ?_
     have he25 := he4.trans he5
     have he05 := he02.trans he25
     have g1 : c.2[j]? = some (c.2[j]'(by omega)) := List.getElem?_eq_getElem (by omega)
     have g2 : c2.2[j]? = some (c2.2[j]'(by omega)) := List.getElem?_eq_getElem (by omega)
     have t1 : c.2.take (j + 1) = c.2.take j ++ [c.2[j]'(by omega)] := List.take_succ_eq_append_getElem (by omega)
     have t2 : c2.2.take (j + 1) = c2.2.take j ++ [c2.2[j]'(by omega)] := List.take_succ_eq_append_getElem (by omega)
     have hnc : c.2[j]'(by omega) ≠ c2.2[j]'(by omega) -> c ≠ c2 := fun h e => h (by
      have e2 : c.2 = c2.2 := by rw [e]
      simp only [e2])
     generalize c.2[j]'(by omega) = ca at *
     generalize c2.2[j]'(by omega) = cb at *
     refine zn 1 y (hb1.ext he25) (by rfl) ?_
     refine xS (sA.ext he05) (by omega) (x := ca) (by rw [Int.toNat_natCast]; exact g1) rfl ?_
     intro pc hpc hcc
     refine qv (ls := zfN) (x := zdr ca) hcc ?_
     refine zn 1 y2 (hb2.ext he25) (by rfl) ?_
     refine xS (sB.ext he05) (by omega) (x := cb) (by rw [Int.toNat_natCast]; exact g2) rfl ?_
     intro pd hpd hcd
     refine qv (ls := zfN) (x := zdr cb) hcd ?_
     refine ⟨_, fun w' => zoB w' ca cb _ _, ?_⟩
     refine zg (fun hq => no he05 (hnc (fun e => by rw [zfo.2 e] at hq; cases hq))) (fun hq => ?_)
     have n6 : ca = cb := zfo.1 (by simpa using hq)
     exact ⟨⟨j + 1, by omega, by rw [wrap_i64 (by omega) (by omega)]; rfl, he25, by rw [t1, t2, htj, n6]⟩, by rw [wrap_i64 (by omega) (by omega)]; omega⟩
    ·refine zc (decide_eq_false (by omega)) ?_
     have n2 : c.2 = c2.2 := by
      rw [List.take_of_length_le (by omega), List.take_of_length_le (by omega)] at htj
      exact htj
     exact ⟨⟨true, rfl, by simp [Prod.ext n1 n2]⟩, he02.trans he4⟩
  ·exact zf (bne_iff_ne.2 (by omega)) (no he02 (fun e => hl2 (by rw [<- a3, <- b3, e])))
 ·exact zf (bne_iff_ne.2 (by omega)) (no he02 (fun e => hl (by rw [<- a1, a2, <- b1, b2, e])))
end V
/- Contracts of the package blob: index, parts. -/
namespace V
open Go Go.Proofs Go.RowKit Crc
def qb (S : Spa) (n : Nat) : Nat × List Nat × Int :=
 if (S.get n).2 ≠ 0 then (0, [], (S.get n).2)
 else if (S.get n).1.1 ≠ 6 then (0, [], 11)
 else if (S.get n).1.2.2.size ≠ 4 then (0, [], 10)
 else if lev (B (S.get n).1.2.2) > 65536 \/ nparts S.r0 (lev (B (S.get n).1.2.2)) ≠ (S.get n).1.2.1.length then (0, [], 10)
 else (lev (B (S.get n).1.2.2), (S.get n).1.2.1, 0)
def zbh (S : Spa) (want k : Nat) : Int := if (S.get k).2 = 0 /\ ((S.get k).1.1 ≠ 7 \/ 0 < (S.get k).1.2.1.length \/ (S.get k).1.2.2.size ≠ want) then 10 else (S.get k).2
def goS (S : Spa) : Nat -> List Nat -> List (ByteArray × Int)
 | _, [] => []
 | size, k :: ks => if zbh S (min size S.r0) k ≠ 0 then [(ByteArray.empty, zbh S (min size S.r0) k)] else ((S.get k).1.2.2, 0) :: goS S (size - min size S.r0) ks
def zU (S : Spa) (n : Nat) : List (ByteArray × Int) := if (qb S n).2.2 ≠ 0 then [(ByteArray.empty, (qb S n).2.2)] else goS S (qb S n).1 (qb S n).2.1
def qQ (l : List (ByteArray × Int)) : List (List Value) := l.map fun p => [.string p.1, .int .i64 p.2]
theorem xU (l : List (ByteArray × Int)) : (qQ l).length = l.length := by simp [qQ]
theorem zky {l : List (ByteArray × Int)} {i : Nat} (h : i < (qQ l).length) {p : ByteArray × Int} (hp : l[i]? = some p) : (qQ l)[i] = [.string p.1, .int .i64 p.2] := by
 obtain ⟨h1, h2⟩ := List.getElem?_eq_some_iff.1 hp
 simp [qQ, h2]
variable {w w' : World} {b db : Nat} {S : Spa} {F Fd : Nat -> Prop} {x : SLC} {hb hr nb nr : Nat} {m : MkL}
theorem zdx {n : Nat} (h : (S.get n).2 = 0) : (S.get n).1.2.1.length <= 1024 /\ ∀ k ∈ (S.get n).1.2.1, 2 <= k /\ k < S.N := by
 unfold Spa.get at h ⊢
 split
 ·rename_i hq; rw [if_pos hq] at h; cases h
 ·rename_i hq
  rw [if_neg hq] at h
  split
  ·rename_i h0; rw [if_pos h0] at h; cases h
  ·exact zeb
theorem zgU (h : SpM w b db S F Fd x hb hr nb nr m) {n : Nat} (hn : n < 4294967296) :
  Calls Tryz.prog 170 #[.pointer (some ⟨b, 0, none⟩), .int .u32 (n : Int)] w (Ret fun v w' => ∃ y : SLC, v = .tuple #[.int .i64 ((qb S n).1 : Int), .slice y.1 y.2.1 y.2.2, .int .i64 (qb S n).2.2] /\ Owni (zu .u32) 41 w' w.heap.size y.1 y.2.1 y.2.2 (qb S n).2.1 /\ Ext w w') := by
 obtain ⟨q0, q1, q2, q3⟩ := xN h.dims
 apply zlD
 unfold S170 qb
 refine zb (vT h hn) ?_
 rintro _ w1 ⟨y, rfl, hok, he1⟩
 refine ⟨(pgT (S.get n).1 y, (S.get n).2, ()), rfl, ?_⟩
 refine yE (vs := pgV (S.get n).1 y) (by rfl) (jS _ _) (fun r2 w2 hb2 he2 hr2 => ?_) (by rfl)
 have he := he1.trans he2
 have hok2 := hok.ext he2
 dsimp only
 refine zg (fun hq => ?_) (fun hq => ?_)
 ·have hq := bne_iff_ne.1 hq
  rw [if_pos hq]
  exact ⟨(none, 0, 0), rfl, Owni.nil _ _ _, he⟩
 have h0 := bne_eq_false_iff_eq.1 hq
 rw [if_neg (fun hh => hh h0)]
 have hkl := zdx h0
 have hyn := hok2.len
 refine zE (((S.get n).1.1.toNat : Nat) : Int) hb2 (by rfl) ?_
 refine zg (fun hq => ?_) (fun hq => ?_)
 ·have hq := bne_iff_ne.1 hq
  rw [if_pos (by intro e; rw [e] at hq; exact hq rfl)]
  exact ⟨(none, 0, 0), rfl, Owni.nil _ _ _, he⟩
 have h6 := bne_eq_false_iff_eq.1 hq
 have h6' : (S.get n).1.1 = 6 := by
  apply UInt8.toNat_inj.1
  show _ = 6
  omega
 rw [if_neg (fun hh => hh h6')]
 refine zn 2 (S.get n).1.2.2 hb2 (by rfl) ?_
 refine zg (fun hq => ?_) (fun hq => ?_)
 ·have hq := bne_iff_ne.1 hq
  rw [if_pos (by omega)]
  exact ⟨(none, 0, 0), rfl, Owni.nil _ _ _, he⟩
 have h4 := bne_eq_false_iff_eq.1 hq
 have h4' : (S.get n).1.2.2.size = 4 := by omega
 rw [if_neg (fun hh => hh h4')]
 refine zn 2 (S.get n).1.2.2 hb2 (by rfl) ?_
 refine kN (u := .string) (e := 5) (by kernel_rfl) (by kernel_rfl) (by kernel_rfl) (by omega) ?_
 intro c w3 hsl he3 hs3 hc3
 refine zb (qJ hsl (by dsimp only; omega)) ?_
 rintro _ w4 ⟨rfl, he4⟩
 refine ⟨_, rfl, ?_⟩
 have hlv : lev (B (S.get n).1.2.2) < 4294967296 := by
  have := zke (B (S.get n).1.2.2)
  unfold rd at this
  have hl : (B (S.get n).1.2.2).length = 4 := by rw [<- yg]; exact h4'
  rw [if_neg (by omega), List.take_of_length_le (by omega)] at this
  exact this
 generalize lev (B (S.get n).1.2.2) = z at *
 have he34 := he3.trans he4
 have he04 := he.trans he34
 refine zb (qL (h.ext he04) (k := 0) (by omega) (by omega)) ?_
 rintro _ w5 ⟨rfl, he5⟩
 refine ⟨_, rfl, ?_⟩
 have he05 := he04.trans he5
 rw [q0, wrap_i64 (x := (z : Int)) (by omega) (by omega)]
 refine zK fun w6 he6 _ _ => ?_
 have he06 := he05.trans he6
 have he26 := (he34.trans he5).trans he6
 refine zg (fun hq => ?_) (fun hq => ?_)
 ·have hq := of_decide_eq_true hq
  rw [if_pos (.inl (by omega))]
  exact ⟨(none, 0, 0), rfl, Owni.nil _ _ _, he06⟩
 have hz := of_decide_eq_false hq
 refine zJ (by omega) ?_
 refine zn (l := .slc) 1 y (hb2.ext he26) (by rfl) ?_
 have hnp : nparts S.r0 z <= 65536 := by
  unfold nparts
  rw [Nat.div_le_iff_le_mul_add_pred (by omega)]
  have : 110 * 65536 <= S.r0 * 65536 := Nat.mul_le_mul_right _ q1
  omega
 have eM : IntKind.wrap .i64 (Int.tdiv (IntKind.wrap .i64 (IntKind.wrap .i64 ((z : Int) + (S.r0 : Int)) - 1)) (S.r0 : Int)) = (nparts S.r0 z : Int) := by
  rw [wrap_i64 (x := (z : Int) + (S.r0 : Int)) (by omega) (by omega), wrap_i64 (x := (z : Int) + (S.r0 : Int) - 1) (by omega) (by omega)]
  rw [show (z : Int) + (S.r0 : Int) - 1 = ((z + S.r0 - 1 : Nat) : Int) by omega, show Int.tdiv ((z + S.r0 - 1 : Nat) : Int) (S.r0 : Int) = (((z + S.r0 - 1) / S.r0 : Nat) : Int) from rfl]
  have : (z + S.r0 - 1) / S.r0 = nparts S.r0 z := rfl
  rw [this, wrap_i64 (by omega) (by omega)]
 rw [eM]
 refine zg (fun hq => ?_) (fun hq => ?_)
 ·have hq := bne_iff_ne.1 hq
  rw [if_pos (.inr (by omega))]
  exact ⟨(none, 0, 0), rfl, Owni.nil _ _ _, he06⟩
 have hq := bne_eq_false_iff_eq.1 hq
 rw [if_neg (by omega)]
 refine zK fun w7 he7 _ _ => ?_
 refine zn (l := .slc) 1 y ((hb2.ext he26).ext he7) (by rfl) ?_
 exact ⟨y, rfl, (hok2.ext he26).ext he7, he06.trans he7⟩
def NoB (w : World) (k : Nat) : Prop := ∀ o, w.heap[k]? = some o -> ∀ c fz, o ≠ .cells c 5 fz
theorem NoB.at_ {w w' : World} {k : Nat} (h : NoB w k) (e : w'.heap[k]? = w.heap[k]?) : NoB w' k := fun o ho => h o (e ▸ ho)
theorem zeS {w : World} {k : Nat} {cs : List Value} {t : TypeId} (h : Blk w k cs t) (ht : t ≠ 5) : NoB w k := fun o ho c fz e => by
 have h' : w.heap[k]? = some _ := h
 rw [h'] at ho
 injection ho with ho
 rw [<- ho] at e
 injection e with _ e2 _
 exact ht e2
theorem zoC {α : Type} {E : Enc α} {w : World} {B n c : Nat} {A : Option Addr} {xs : List α} {e : TypeId} (h : Owni E e w B A n c xs) (he : e ≠ 5) : ∀ q, orow A = some q -> NoB w q := fun q hq o ho c' fz ee => by
 rcases h.2 with ⟨hv, _⟩ | ⟨g, cap, cur, hv, _, hg, _⟩
 ·injection hv with hv; subst hv; cases hq
 ·injection hv with hv
  subst hv
  have : g = q := Option.some.inj hq
  subst this
  rw [hg] at ho
  injection ho with ho
  rw [<- ho] at ee
  injection ee with _ e2 _
  exact he e2
def RSp (b db : Nat) (S : Spa) (F Fd : Nat -> Prop) (x : SLC) (hb hr nb nr : Nat) (m : MkL) : WP := fun w => SpM w b db S F Fd x hb hr nb nr m
def Two (b n r1 r2 : Nat) : WP := fun w => Blk w r1 [.pointer (some ⟨b, 0, none⟩)] 48 /\ Blk w r2 [.int .u32 (n : Int)] 41
theorem zjw {N0 l n r1 r2 : Nat} {J : (Nat -> Prop) -> Nat -> WP} {E : (Nat -> Prop) -> WP} {Q : Nat -> Prop} {wc : World} (hn : n < 4294967296) (hF0 : ∀ k, F k -> k < N0) (hN0 : N0 <= wc.heap.size) (hQ1 : Q r1) (hQB : ∀ k, Q k -> NoB wc k) (hQN : ∀ k, Q k -> N0 <= k)
  (hJ0 : J Q 0 wc) (hQc : ∀ k, Q k -> k < wc.heap.size) (hR0 : Two b n r1 r2 wc) (hJR : ∀ V i w', J V i w' -> RSp b db S F Fd x hb hr nb nr m w')
  (hJ : ∀ (V V' : Nat -> Prop) i w' w'', J V i w' -> Only V w' w'' -> (∀ k, V' k -> V k \/ w'.heap.size <= k) -> RSp b db S F Fd x hb hr nb nr m w'' -> J V' i w'')
  (hY : ∀ (V : Nat -> Prop) i w' (h : i < (qQ (zU S n)).length), J V i w' -> (∀ k, V k -> k < w'.heap.size) -> (∀ k, V k -> NoB w' k) -> jk Tryz.prog l (qQ (zU S n))[i] w' fun v w'' => w'.heap.size <= w''.heap.size /\ (∀ k, V k -> w''.heap[k]? = w'.heap[k]?) /\
   ((v = .bool true /\ RSp b db S F Fd x hb hr nb nr m w'' /\ J V (i + 1) w'') \/ (v = .bool false /\ E V w''))) :
  Calls Tryz.prog 169 #[.func (.yield l) #[] #[], .pointer (some ⟨r1, 0, none⟩), .pointer (some ⟨r2, 0, none⟩)] wc (Ret fun _ w' => ∃ V : Nat -> Prop, (J V (qQ (zU S n)).length w' /\ (∀ k, V k -> Q k \/ wc.heap.size <= k) /\ True) \/ E V w') := by
 obtain ⟨k1, k2⟩ := hR0
 have hS := hJR _ _ _ hJ0
 have hS' : SpM wc b db S F Fd x hb hr nb nr m := hS
 obtain ⟨q0, q1, q2, q3⟩ := xN hS'.dims
 have hRst : ∀ {w1 w2 : World}, RSp b db S F Fd x hb hr nb nr m w1 -> Ext w1 w2 -> RSp b db S F Fd x hb hr nb nr m w2 := fun h e => SpM.ext h e
 apply zlC
 unfold S169
 refine zo (x := some ⟨b, 0, none⟩) k1 (by rfl) (zo (x := (n : Int)) k2 (by rfl) ?_)
 refine zb (zgU hS' hn) ?_
 rintro _ w1 ⟨y, rfl, hok, he1⟩
 refine ⟨(((qb S n).1 : Int), y, (qb S n).2.2, ()), rfl, ?_⟩
 dsimp only
 -- a yield, whatever comes behind
 have yld : ∀ {V : Nat -> Prop} {i : Nat} {w2 : World} {p : ByteArray × Int} {K : Bool -> WP}, J V i w2 -> (∀ k, V k -> k < w2.heap.size) -> (∀ k, V k -> NoB w2 k) -> (zU S n)[i]? = some p -> (∀ w3, w2.heap.size <= w3.heap.size -> (∀ k, V k -> w3.heap[k]? = w2.heap[k]?) -> RSp b db S F Fd x hb hr nb nr m w3 -> J V (i + 1) w3 -> K true w3) -> (∀ w3, E V w3 -> K false w3) ->
   yy Tryz.prog (.func (.yield l) #[] #[]) [.string p.1, .int .i64 p.2] (.one (.one .bool)) K w2 := by
  intro V i w2 p K hJ2 hV2 hB2 hp hK1 hK2
  have hidx : i < (qQ (zU S n)).length := by rw [xU]; exact (List.getElem?_eq_some_iff.1 hp).1
  refine .inr ⟨l, rfl, ?_⟩
  have hy := hY V i w2 hidx hJ2 hV2 hB2
  rw [zky hidx hp] at hy
  obtain ⟨fn, tmps, asg, bd, hy1, hy2⟩ := hy
  refine ⟨fn, tmps, asg, bd, hy1, RoundIn.mono hy2 ?_⟩
  rintro (v | cc | _) w6 hvv
  ·obtain ⟨a1, a2, ⟨rfl, a3, a4⟩ | ⟨rfl, a3⟩⟩ := hvv
   ·exact ⟨true, rfl, hK1 w6 a1 a2 a3 a4⟩
   ·exact ⟨false, rfl, hK2 w6 a3⟩
  ·exact hvv
  ·exact hvv
 have he1s := he1.size
 let V1 : Nat -> Prop := fun q => Q q \/ orow y.1 = some q
 have hV1n : ∀ q, V1 q -> Q q \/ wc.heap.size <= q := fun q hq => by
  rcases hq with hq | hq
  ·exact .inl hq
  ·exact .inr (hok.row q hq)
 have hV1l : ∀ q, V1 q -> q < w1.heap.size := fun q hq => by
  rcases hq with hq | hq
  ·exact Nat.lt_of_lt_of_le (hQc q hq) he1s
  ·exact hok.yc q hq
 have hV1b : ∀ q, V1 q -> NoB w1 q := fun q hq => by
  rcases hq with hq | hq
  ·exact (hQB q hq).at_ (he1.block q (hQc q hq))
  ·exact zoC hok (by decide) q hq
 have hJ1 : J V1 0 w1 := hJ _ _ _ _ _ hJ0 (Only.zG he1) hV1n (hRst hS he1)
 refine zg (fun hq => ?_) (fun hq => ?_)
 ·have hq := bne_iff_ne.1 hq
  have ep : zU S n = [(ByteArray.empty, (qb S n).2.2)] := by unfold zU; rw [if_pos hq]
  refine yld (p := (ByteArray.empty, (qb S n).2.2)) hJ1 hV1l hV1b (by rw [ep]; rfl) (fun w3 _ _ _ hJ3 => ⟨V1, .inl ⟨?_, hV1n, trivial⟩⟩) (fun w3 hE => ⟨V1, .inr hE⟩)
  rw [xU, ep]
  exact hJ3
 have hq := bne_eq_false_iff_eq.1 hq
 have ep : zU S n = goS S (qb S n).1 (qb S n).2.1 := by unfold zU; rw [if_neg (fun hh => hh hq)]
 have hyn := hok.len
 have hkn : ∀ k ∈ (qb S n).2.1, k < 4294967296 := by
  intro k hk
  have hd := hS'.dims.n
  unfold qb at hk
  split at hk
  ·cases hk
  ·rename_i h0
   have h0 : (S.get n).2 = 0 := by omega
   have := zdx h0
   split at hk
   ·cases hk
   ·split at hk
    ·cases hk
    ·split at hk
     ·cases hk
     ·have := this.2 k hk; omega
 have hz65 : (qb S n).1 <= 65536 := by
  unfold qb
  split
  ·omega
  ·split
   ·omega
   ·split
    ·omega
    ·split
     ·omega
     ·rename_i hh; omega
 have hle := hok.le
 generalize hks : (qb S n).2.1 = ks at *
 generalize hsz0 : (qb S n).1 = z0 at *
 refine zx (fun y' w' => ∃ (j zj : Nat) (V : Nat -> Prop), j <= y.2.1 /\ y' = ((zj : Int), (j : Int), ()) /\ zj <= 65536 /\ (zU S n).drop j = goS S zj (ks.drop j) /\ j <= (zU S n).length /\ J V j w' /\ (∀ q, V1 q -> V q) /\ (∀ q, V q -> Q q \/ wc.heap.size <= q) /\ (∀ q, V q -> q < w'.heap.size) /\ (∀ q, V q -> NoB w' q) /\ (∀ q, V1 q -> w'.heap[q]? = w1.heap[q]?) /\ w1.heap.size <= w'.heap.size) (fun y' => (y.2.1 - y'.2.1).toNat)
  ⟨0, z0, V1, by omega, rfl, hz65, by rw [ep]; rfl, by omega, hJ1, fun q h => h, hV1n, hV1l, hV1b, fun _ _ => rfl, Nat.le_refl _⟩ ?_
 rintro _ w2 ⟨j, zj, V, hj, rfl, hzj, hdrop, hjl, hJ2, hVV, hVn, hVl, hVb, hkp, hs12⟩
 dsimp only
 have hS2 := hJR _ _ _ hJ2
 have hS2' : SpM w2 b db S F Fd x hb hr nb nr m := hS2
 have k1w := (k1.ext he1).at_ (hkp r1 (.inl hQ1))
 have hslj : Sli (zu .u32) w2 y.1 y.2.1 ks := hok.sl.congr (fun a ha => hkp _ (.inr (by rw [ha]; rfl)))
 by_cases hlt : j < y.2.1
 ·refine zf (decide_eq_true (by omega)) ?_
  refine zR hslj (by omega) (by omega) ?_
  rw [Int.toNat_natCast]
  have eg : ks[j]? = some (ks.getD j 0) := by rw [List.getD_eq_getElem?_getD, List.getElem?_eq_getElem (by omega)]; rfl
  have hk32 := hkn _ (List.mem_of_getElem? eg)
  have edrop : ks.drop j = ks.getD j 0 :: ks.drop (j + 1) := by
   obtain ⟨h1, h2⟩ := List.getElem?_eq_some_iff.1 eg
   rw [List.drop_eq_getElem_cons h1, h2]
  rw [edrop] at hdrop
  generalize ks.getD j 0 = k at *
  refine zo (x := some ⟨b, 0, none⟩) k1w (by rfl) ?_
  refine zb (qL hS2' (k := 0) (by omega) (by omega)) ?_
  rintro _ w3 ⟨rfl, he3⟩
  refine ⟨_, rfl, ?_⟩
  rw [q0]
  refine zo (x := some ⟨b, 0, none⟩) (k1w.ext he3) (by rfl) ?_
  refine zb (vT (hS2'.ext he3) hk32) ?_
  rintro _ w4 ⟨y2, rfl, hok4, he4⟩
  refine ⟨(pgT (S.get k).1 y2, (S.get k).2, ()), rfl, ?_⟩
  refine yE (vs := pgV (S.get k).1 y2) (by rfl) (jS _ _) (fun r13 w5 hb5 he5 hr5 => ?_) (by rfl)
  have he25 := (he3.trans he4).trans he5
  have h25 := he25.size
  have hkl : (S.get k).2 = 0 -> (S.get k).1.2.1.length <= 1024 := fun h0 => (zdx h0).1
  have hy2n := hok4.len
  have ewant : (if ((S.r0 : Nat) : Int) < (zj : Int) then ((S.r0 : Nat) : Int) else (zj : Int)) = ((min zj S.r0 : Nat) : Int) := by split <;> omega
  rw [ewant]
  dsimp only
  refine yB (fun y' w' => y' = (zbh S (min zj S.r0) k, ()) /\ w' = w5) ?_ (fun J' hJ' => ?_)
  rotate_left
  ·unfold zbh at hJ'
   refine zg (fun hq => ?_) (fun hq => ?_)
   ·have hq := beq_iff_eq.1 hq
    refine zE (((S.get k).1.1.toNat : Nat) : Int) hb5 (by rfl) ?_
    refine zg (fun h7 => ?_) (fun h7 => ?_)
    ·have h7 := bne_iff_ne.1 h7
     exact hJ' _ _ ⟨by rw [if_pos ⟨hq, .inl (fun e => by rw [e] at h7; exact h7 rfl)⟩], rfl⟩
    have h7 := bne_eq_false_iff_eq.1 h7
    have h7' : (S.get k).1.1 = 7 := by
     apply UInt8.toNat_inj.1
     show _ = 7
     omega
    refine zn (l := .slc) 1 y2 hb5 (by rfl) ?_
    refine zg (fun h8 => ?_) (fun h8 => ?_)
    ·have h8 := of_decide_eq_true h8
     exact hJ' _ _ ⟨by rw [if_pos ⟨hq, .inr (.inl (by omega))⟩], rfl⟩
    have h8 := of_decide_eq_false h8
    refine zn 2 (S.get k).1.2.2 hb5 (by rfl) ?_
    refine zg (fun h9 => ?_) (fun h9 => ?_)
    ·have h9 := bne_iff_ne.1 h9
     exact hJ' _ _ ⟨by rw [if_pos ⟨hq, .inr (.inr (by omega))⟩], rfl⟩
    have h9 := bne_eq_false_iff_eq.1 h9
    exact hJ' _ _ ⟨by rw [if_neg (by rintro ⟨_, e | e | e⟩; exact e h7'; omega; omega)], rfl⟩
   ·have hq : ¬ (S.get k).2 = 0 := beq_eq_false_iff_ne.1 hq
    exact hJ' _ _ ⟨by rw [if_neg (fun e => hq e.1)], rfl⟩
  rintro y' w6 ⟨rfl, hw6⟩
  rw [hw6]
  dsimp only
  let V2 : Nat -> Prop := fun q => V q \/ q = r13
  have hr13 : w2.heap.size <= r13 := Nat.le_trans (he3.trans he4).size hr5
  have hV2n : ∀ q, V2 q -> V q \/ w2.heap.size <= q := fun q hq => by
   rcases hq with hq | rfl
   ·exact .inl hq
   ·exact .inr hr13
  have hJ5 : J V2 j w5 := hJ _ _ _ _ _ hJ2 (Only.zG he25) hV2n (hRst hS2 he25)
  have hV2l : ∀ q, V2 q -> q < w5.heap.size := fun q hq => by
   rcases hq with hq | rfl
   ·exact Nat.lt_of_lt_of_le (hVl q hq) h25
   ·exact hb5.lt
  have hV2b : ∀ q, V2 q -> NoB w5 q := fun q hq => by
   rcases hq with hq | rfl
   ·exact (hVb q hq).at_ (he25.block q (hVl q hq))
   ·exact zeS hb5 (by decide)
  have hV2Q : ∀ q, V2 q -> Q q \/ wc.heap.size <= q := fun q hq => by
   rcases hV2n q hq with e | e
   ·exact hVn q e
   ·exact .inr (by omega)
  have hkp5 : ∀ q, V1 q -> w5.heap[q]? = w1.heap[q]? := fun q hq => (he25.block q (hVl q (hVV q hq))).trans (hkp q hq)
  have hget0 : ∀ p r, (zU S n).drop j = p :: r -> (zU S n)[j]? = some p /\ (zU S n).drop (j + 1) = r /\ j + 1 <= (zU S n).length := fun p r hh => by
   have h1 : ((zU S n).drop j)[0]? = some p := by rw [hh]; rfl
   rw [List.getElem?_drop, Nat.add_zero] at h1
   refine ⟨h1, ?_, (List.getElem?_eq_some_iff.1 h1).1⟩
   have h2 := congrArg (List.drop 1) hh
   rw [List.drop_drop] at h2
   simpa using h2
  refine zg (fun hq => ?_) (fun hq => ?_)
  ·have hq := bne_iff_ne.1 hq
   rw [goS, if_pos hq] at hdrop
   obtain ⟨g1, g2, g3⟩ := hget0 _ _ hdrop
   have hl1 : (zU S n).length = j + 1 := by
    have := congrArg List.length hdrop
    rw [List.length_drop, List.length_singleton] at this
    omega
   refine yld (p := (ByteArray.empty, zbh S (min zj S.r0) k)) hJ5 hV2l hV2b g1 (fun w7 _ _ _ hJ7 => ⟨V2, .inl ⟨?_, hV2Q, trivial⟩⟩) (fun w7 hE => ⟨V2, .inr hE⟩)
   rw [xU, hl1]
   exact hJ7
  have hq := bne_eq_false_iff_eq.1 hq
  rw [goS, if_neg (fun hh => hh hq)] at hdrop
  obtain ⟨g1, g2, g3⟩ := hget0 _ _ hdrop
  refine zn 2 (S.get k).1.2.2 hb5 (by rfl) ?_
  refine yld (p := ((S.get k).1.2.2, 0)) hJ5 hV2l hV2b g1 (fun w7 a1 a2 a3 a4 => ?_) (fun w7 hE => zf (by rfl) ⟨V2, .inr hE⟩)
  refine zc (by rfl) ?_
  have w1' : IntKind.wrap .i64 ((zj : Int) - ((min zj S.r0 : Nat) : Int)) = ((zj - min zj S.r0 : Nat) : Int) := by rw [wrap_i64 (by omega) (by omega)]; omega
  have w2' : IntKind.wrap .i64 ((j : Int) + 1) = ((j + 1 : Nat) : Int) := by rw [wrap_i64 (by omega) (by omega)]; rfl
  rw [w1', w2']
  refine ⟨⟨j + 1, zj - min zj S.r0, V2, by omega, rfl, by omega, g2, g3, a4, fun q hq => .inl (hVV q hq), hV2Q, fun q hq => Nat.lt_of_lt_of_le (hV2l q hq) a1, fun q hq => (hV2b q hq).at_ (a2 q hq), fun q hq => (a2 q (.inl (hVV q hq))).trans (hkp5 q hq), by omega⟩, by omega⟩
 ·obtain rfl : j = y.2.1 := by omega
  refine zc (decide_eq_false (by omega)) ?_
  rw [List.drop_of_length_le (l := ks) (by omega), goS] at hdrop
  have hl1 : (zU S n).length = y.2.1 := by
   have := congrArg List.length hdrop
   rw [List.length_drop, List.length_nil] at this
   omega
  refine ⟨V, .inl ⟨?_, hVn, trivial⟩⟩
  rw [xU, hl1]
  exact hJ2
theorem zhS (h : SpM w b db S F Fd x hb hr nb nr m) {n : Nat} (hn : n < 4294967296) :
  Calls Tryz.prog 127 #[.pointer (some ⟨b, 0, none⟩), .int .u32 (n : Int)] w (Ret fun v w' => ∃ (Q : Nat -> Prop) (R0 : WP), zjg Tryz.prog v (qQ (zU S n)) (RSp b db S F Fd x hb hr nb nr m) Q R0 (fun _ => True) NoB /\ R0 w' /\ (∀ w1 w2, R0 w1 -> Ext w1 w2 -> R0 w2) /\ (∀ k, Q k -> k < w'.heap.size) /\ (∀ k, Q k -> w.heap.size <= k) /\ Ext w w') := by
 have hFlt := h.lt
 apply zld
 unfold S127
 refine zr fun r1 w1 hb1 he1 hr1 hz1 => ?_
 refine zr fun r2 w2 hb2 he2 hr2 hz2 => ?_
 have he := he1.trans he2
 have hs1 := he1.size
 refine ⟨fun k => k = r1 \/ k = r2, Two b n r1 r2, ?_, ⟨hb1.ext he2, hb2⟩, fun w1 w2 h1 h2 => ⟨h1.1.ext h2, h1.2.ext h2⟩, fun k hk => by rcases hk with rfl | rfl <;> omega, fun k hk => by rcases hk with rfl | rfl <;> omega, he⟩
 refine ⟨_, _, rfl, by kernel_rfl, fun l J E wc hJ0 hQc hR0c hJR hJs hEs hY => ?_⟩
 exact zjw (N0 := w.heap.size) hn hFlt (by have := hQc r1 (.inl rfl); omega) (.inl rfl) (fun k hk => by rcases hk with rfl | rfl; exact zeS hR0c.1 (by decide); exact zeS hR0c.2 (by decide)) (fun k hk => by rcases hk with rfl | rfl <;> omega) hJ0 hQc hR0c hJR hJs hY
end V
/- Contracts of the package blob: Get, Parts. -/
namespace V
open Go Go.Proofs Go.RowKit Crc
variable {w w' : World} {b db : Nat} {S : Spa} {F Fd : Nat -> Prop} {x : SLC} {hb hr nb nr : Nat} {m : MkL}
def BdV (V : Nat -> Prop) (w : World) (b : Nat) (l : List UInt8) : Prop := ∃ p v, (p = .pointer none \/ p = .pointer (some ⟨b, 0, none⟩)) /\ w.heap[b]? = some (.cells #[p, v] 204 (0, 0)) /\ w.ownsRowF b 5 1 v (Lib.byteCells l).length (Lib.byteCells l) /\ v.ownBlock ≠ some b /\ ∀ j, v.ownBlock = some j -> ¬ V j
theorem BdV.is {V : Nat -> Prop} {w : World} {b : Nat} {l : List UInt8} (h : BdV V w b l) : Lib.IsBuilderF 204 5 b b (Lib.byteCells l) w := by
 obtain ⟨p, v, rfl | rfl, h1, h2, h3, _⟩ := h
 ·exact .inl ⟨Nat.le_refl _, v, h1, h2, h3⟩
 ·exact .inr ⟨Nat.le_refl _, v, h1, h2, h3⟩
theorem BdV.only {V V' G : Nat -> Prop} {w w' : World} {b : Nat} {l : List UInt8} (h : BdV V w b l) (hO : Only G w w') (hb : ¬ G b) (hG : ∀ j, G j -> V j \/ w.heap.size <= j \/ j < b) (hV : ∀ j, V' j -> V j \/ w.heap.size <= j) : BdV V' w' b l := by
 obtain ⟨p, v, hp, h1, h2, h3, h4⟩ := h
 have hlt := (Array.getElem?_eq_some_iff.1 h1).1
 refine ⟨p, v, hp, (hO.2.2.2.2 b hlt hb).trans h1, ?_, h3, fun j hj hv => ?_⟩
 ·refine ⟨h2.1, ?_⟩
  rcases h2.2 with hn | ⟨g, cap, cur, fz, rfl, hbb, hgg, rest⟩
  ·exact .inl hn
  ·refine .inr ⟨g, cap, cur, fz, rfl, hbb, ?_, rest⟩
   have hgl := (Array.getElem?_eq_some_iff.1 hgg).1
   rw [hO.2.2.2.2 g hgl (fun hh => by
    rcases hG g hh with e | e | e
    ·exact h4 g rfl e
    ·omega
    ·omega)]
   exact hgg
 ·rcases hV j hv with e | e
  ·exact h4 j hj e
  ·have := (World.ownsRowF.lt h2 j hj).2; omega
theorem BdV.new {V : Nat -> Prop} {w : World} {b : Nat} (h : Blk w b [.pointer none, .slice none 0 0] 204) : BdV V w b [] :=
 ⟨_, _, .inl rfl, h, World.ownsRowF_nil w b _ 1, (fun e => by cases e), (fun j hj => by cases hj)⟩
theorem BdV.lt {V : Nat -> Prop} {w : World} {b : Nat} {l : List UInt8} (h : BdV V w b l) : b < w.heap.size := by
 obtain ⟨p, v, hp, h1, _⟩ := h
 exact (Array.getElem?_eq_some_iff.1 h1).1
theorem zjx {V : Nat -> Prop} {w : World} {b : Nat} {l : List UInt8} (h : BdV V w b l) (s : ByteArray) (hl : l.length + s.size <= 140737488355000) (hV : ∀ k, V k -> k < w.heap.size /\ k ≠ b /\ NoB w k) :
  Calls Tryz.prog 128 #[.pointer (some ⟨b, 0, none⟩), .string s] w (Ret fun v w' => v = .tuple #[.int .i64 s.size, .nilIface] /\ BdV V w' b (l ++ B s) /\ Below b w w' /\ ∀ k, k < w.heap.size -> k ≠ b -> NoB w k -> w'.heap[k]? = w.heap[k]?) :=
 (Tryz.Builder_WriteString_k b b (Lib.byteCells l) s w h.is (by rw [Lib.byteCells_length]; omega) (Nat.le_of_lt h.lt)).mono (by
  rintro e w' ⟨rfl, ⟨h1, v, h2, h3, h4⟩, hB, hK⟩
  have keep : ∀ k, k < w.heap.size -> k ≠ b -> NoB w k -> w'.heap[k]? = w.heap[k]? := fun k h1 h2 h3 => by
   have e := Array.getElem?_eq_getElem h1
   rw [e]
   exact hK k _ e (fun e' => h2 (Option.some.inj e')) (fun c fz => h3 _ e c fz)
  refine ⟨rfl, ⟨_, v, .inr rfl, h2, ?_, h4, fun j hj hv => ?_⟩, hB, keep⟩
  ·have ee : Lib.byteCells (l ++ B s) = Lib.byteCells l ++ Lib.strCells s := by simp [Lib.byteCells, strCells_eq, bV]
   rw [ee]
   exact h3
  ·obtain ⟨v1, v2, v3⟩ := hV j hv
   rcases h3.2 with ⟨hn, _⟩ | ⟨g, cap, cur, fz, hvv, _, hgg, _⟩
   ·subst hn; cases hj
   ·subst hvv
    have : g = j := Option.some.inj hj
    subst this
    rw [keep g v1 v2 v3] at hgg
    exact v3 _ hgg cur fz rfl)
theorem zhT {V : Nat -> Prop} {w : World} {b : Nat} {l : List UInt8} (h : BdV V w b l) :
  Calls Tryz.prog 129 #[.pointer (some ⟨b, 0, none⟩)] w (Ret fun v w' => v = .string (mkB l) /\ Below b w w' /\ ∀ k, k < w.heap.size -> k ≠ b -> NoB w k -> w'.heap[k]? = w.heap[k]?) :=
 (Tryz.Builder_String_any_k b b l w h.is (Nat.le_of_lt h.lt)).mono (by
  rintro e w' ⟨rfl, _, hB, hK⟩
  refine ⟨rfl, hB, fun k h1 h2 h3 => ?_⟩
  have e := Array.getElem?_eq_getElem h1
  rw [e]
  exact hK k _ e (fun e' => h2 (Option.some.inj e')) (fun c fz => h3 _ e c fz))
def zbi (S : Spa) (n : Nat) : ByteArray × Int := match (zU S n).find? (fun p => decide (p.2 ≠ 0)) with
 | some p => (ByteArray.empty, p.2)
 | none => (mkB ((zU S n).flatMap fun p => B p.1), 0)
theorem zjy {l : List (ByteArray × Int)} {i : Nat} {p : ByteArray × Int} (hp : l[i]? = some p) (hne : p.2 ≠ 0) (hno : ∀ (j : Nat) (q : ByteArray × Int), j < i -> l[j]? = some q -> q.2 = 0) : l.find? (fun p => decide (p.2 ≠ 0)) = some p := by
 induction l generalizing i with
 | nil => simp at hp
 | cons a t ih =>
  cases i with
  | zero =>
   simp only [List.getElem?_cons_zero, Option.some.injEq] at hp
   subst hp
   rw [List.find?_cons, decide_eq_true hne]
  | succ i =>
   have h0 := hno 0 a (by omega) rfl
   rw [List.find?_cons, decide_eq_false (fun e => e h0)]
   exact ih (i := i) (by simpa using hp) (fun j q hj hq => hno (j + 1) q (by omega) (by simpa using hq))
theorem zfp {l : List (ByteArray × Int)} (hno : ∀ (j : Nat) (q : ByteArray × Int), l[j]? = some q -> q.2 = 0) : l.find? (fun p => decide (p.2 ≠ 0)) = none := by
 rw [List.find?_eq_none]
 intro p hp
 obtain ⟨j, hj, e⟩ := List.mem_iff_getElem.1 hp
 have := hno j p (by rw [List.getElem?_eq_getElem hj, e])
 simp [this]
def ja (S : Spa) (n i : Nat) : List UInt8 := ((zU S n).take i).flatMap fun p => B p.1
theorem zjz (h : SpM w b db S F Fd x hb hr nb nr m) {n : Nat} (hn : n < 4294967296) (hlen : (zU S n).length <= 100000) (hsz0 : ∀ p ∈ zU S n, p.1.size <= 5000) :
  Calls Tryz.prog 82 #[.pointer (some ⟨b, 0, none⟩), .int .u32 (n : Int)] w (Ret fun v w' => v = .tuple #[.string (zbi S n).1, .int .i64 (zbi S n).2] /\ Ext w w') := by
 have hFlt := h.lt
 have hbl : ∀ i, (ja S n i).length <= i * 5000 := by
  intro i
  induction i with
  | zero => simp [ja]
  | succ i ih =>
   unfold ja at ih ⊢
   rw [List.take_add_one]
   rw [List.flatMap_append, List.length_append]
   cases hp : (zU S n)[i]? with
   | none => rw [Option.toList_none, List.flatMap_nil, List.length_nil, Nat.add_zero]; exact Nat.le_trans ih (Nat.mul_le_mul_right _ (Nat.le_succ i))
   | some p =>
    have := hsz0 p (List.mem_of_getElem? hp)
    rw [yg] at this
    rw [Option.toList_some, List.flatMap_cons, List.flatMap_nil, List.append_nil, Nat.add_mul, Nat.one_mul]
    exact Nat.add_le_add ih (by omega)
 apply znZ
 unfold S82
 refine zr fun r1 w1 hb1 he1 hr1 hz1 => ?_
 refine zr fun r2 w2 hb2 he2 hr2 hz2 => ?_
 refine zc (by rfl) ?_
 refine zr fun r5 w3 hb5 he3 hr5 hz5 => ?_
 have hb1 := (hb1.ext he2).ext he3
 have hb2 := hb2.ext he3
 have he := (he1.trans he2).trans he3
 refine zb (zhS (h.ext he) hn) ?_
 rintro v w4 ⟨Q, R0, hit, hR0, hRx, hQl, hQ, he4⟩
 refine ⟨v, rfl, ?_⟩
 have he04 := he.trans he4
 have hb1 := hb1.ext he4
 have hb2 := hb2.ext he4
 have hb5 := hb5.ext he4
 have h34 := he4.size
 have hs1 := he1.size
 have h04 := he04.size
 have hsame : ∀ {w' w'' : World}, yO w4.heap.size (w4.heap.size + 1) w' w'' -> RSp b db S F Fd x hb hr nb nr m w' -> RSp b db S F Fd x hb hr nb nr m w'' := fun hs hS =>
  SpM.qh hS hs (fun hf => by have := hFlt _ hf; omega) (fun hf => by have := hFlt _ hf; omega)
 have hRb : ∀ {w' w'' : World}, Only (fun k => r5 <= k) w' w'' -> RSp b db S F Fd x hb hr nb nr m w' -> RSp b db S F Fd x hb hr nb nr m w'' := fun hO hS => SpM.only hS hO (fun j hj hk => by have := hFlt _ hj; have : r5 <= j := hk; omega)
 have hel : ∀ i, i < (zU S n).length -> (zU S n)[i]? = some ((zU S n).getD i (ByteArray.empty, 0)) := fun i hi => by rw [List.getD_eq_getElem?_getD, List.getElem?_eq_getElem hi]; rfl
 refine zgH (fun i => (((zU S n).getD i (ByteArray.empty, 0)).1, ((zU S n).getD i (ByteArray.empty, 0)).2, ())) ?_
  (fun V i w' => RSp b db S F Fd x hb hr nb nr m w' /\ Blk w' r1 [.string ByteArray.empty] 9 /\ Blk w' r2 [.int .i64 0] 28 /\ BdV (fun k => V k \/ k = w4.heap.size \/ k = w4.heap.size + 1) w' r5 (ja S n i) /\ (∀ j q, j < i -> (zU S n)[j]? = some q -> q.2 = 0) /\ Ext w w' /\ (∀ k, V k -> r5 < k) /\ w4.heap.size <= w'.heap.size)
  (fun V c w' => c = .ret /\ ∃ e : Int, Blk w' r1 [.string ByteArray.empty] 9 /\ Blk w' r2 [.int .i64 e] 28 /\ zbi S n = (ByteArray.empty, e) /\ Ext w w' /\ (∀ k, V k -> r5 < k) /\ w4.heap.size <= w'.heap.size)
  hit hQl (fun w' w'' hs hS => hsame hs hS) (fun _ _ _ _ => trivial) ?_ ?_ ?_ ?_ ?_ ?_ ?_ ?_
 ·intro i hi
  have hi' : i < (zU S n).length := by rw [xU] at hi; exact hi
  simp [qQ, hi']
 ·intro V i w' hI
  exact hI.1
 ·rintro V V' i w' w'' ⟨g1, g2, g3, g4, g5, g6, g7, g8⟩ hO hV hR
  have hno : ∀ k, k <= r5 -> ¬ (V k \/ k = w4.heap.size \/ k = w4.heap.size + 1) := fun k hk hh => by
   rcases hh with hh | hh | hh
   ·have := g7 k hh; omega
   ·omega
   ·omega
  refine ⟨hR, g2.only hO (hno r1 (by omega)), g3.only hO (hno r2 (by omega)), ?_, g5, Only.ext g6 hO (fun j hj => ?_), fun k hk => ?_, ?_⟩
  ·refine BdV.only g4 hO (hno r5 (by omega)) (fun j hj => .inl hj) (fun j hj => ?_)
   rcases hj with hj | hj
   ·rcases hV j hj with e | e
    ·exact .inl (.inl e)
    ·exact .inr e
   ·exact .inl (.inr hj)
  ·rcases hj with hj | rfl | rfl
   ·have := g7 j hj; omega
   ·omega
   ·omega
  ·rcases hV k hk with e | e
   ·exact g7 k e
   ·omega
  ·have := hO.2.2.2.1; omega
 ·rintro V V' c w' w'' ⟨rfl, e, g1, g2, g3, g6, g7, g8⟩ hO hV
  have hno : ∀ k, k <= r5 -> ¬ (V k \/ k = w4.heap.size \/ k = w4.heap.size + 1) := fun k hk hh => by
   rcases hh with hh | hh | hh
   ·have := g7 k hh; omega
   ·omega
   ·omega
  refine ⟨rfl, e, g1.only hO (hno r1 (by omega)), g2.only hO (hno r2 (by omega)), g3, Only.ext g6 hO (fun j hj => ?_), fun k hk => ?_, ?_⟩
  ·rcases hj with hj | rfl | rfl
   ·have := g7 j hj; omega
   ·omega
   ·omega
  ·rcases hV k hk with e | e
   ·exact g7 k e
   ·omega
  ·have := hO.2.2.2.1; omega
 ·intro o
  have hx : Ext w4 ((w4.alloc (.deferred (some []))).alloc o) := ((Ext.refl w4).alloc _).alloc _
  exact ⟨(h.ext he04).ext hx, hb1.ext hx, hb2.ext hx, BdV.new (hb5.ext hx), fun j q hj => by omega, he04.trans hx, fun k hk => by have := hQ k hk; omega, hx.size⟩
 ·intro o
  exact hRx _ _ hR0 (((Ext.refl w4).alloc _).alloc _)
 ·rintro V i hi w' G N jump hI hsz hV hVb hG
  have hi' : i < (zU S n).length := by rw [xU] at hi; exact hi
  have ei := hel i hi'
  have hpz := hsz0 _ (List.mem_of_getElem? ei)
  generalize (zU S n).getD i (ByteArray.empty, 0) = p at *
  refine hG _ w' hI (Nat.le_refl _) (fun _ _ => rfl) ?_
  rintro w2' ⟨g1, g2, g3, g4, g5, g6, g7, g8⟩ hs2 hk2 hNC hN' hJ'
  dsimp only
  refine zg (fun hq => ?_) (fun hq => ?_)
  ·have hq := bne_iff_ne.1 hq
   refine zO g2 (by show 0 < 1; omega) ?_
   have a1 := g2.set 0 (.string (ByteArray.mk #[]))
   have a2 := g3.other (p := ⟨r1, 0, none⟩) (by show r1 ≠ r2; omega) (.string (ByteArray.mk #[]))
   refine zO a2 (by show 0 < 1; omega) ?_
   have a3 := a1.other (p := ⟨r2, 0, none⟩) (by show r2 ≠ r1; omega) (.int .i64 p.2)
   have a4 := a2.set 0 (.int .i64 p.2)
   refine hJ' .ret _ ⟨rfl, p.2, a3, a4, ?_, (g6.set (p := ⟨r1, 0, none⟩) (by show w.heap.size <= r1; omega) _).set (p := ⟨r2, 0, none⟩) (by show w.heap.size <= r2; omega) _, g7, by simp; omega⟩ (by simp) (fun k hk => ?_)
   ·unfold zbi
    rw [zjy ei hq (fun j q hj hq' => g5 j q hj hq')]
   ·have hkr : k ≠ r1 /\ k ≠ r2 := by
     rcases hk with rfl | rfl | hk
     ·omega
     ·omega
     ·have := g7 k hk; omega
    rw [Below.heap_setCell _ _ _ _ (by show k ≠ r2; exact hkr.2), Below.heap_setCell _ _ _ _ (by show k ≠ r1; exact hkr.1)]
  ·have hq := bne_eq_false_iff_eq.1 hq
   have hbli := hbl i
   have hV2 : ∀ k, (V k \/ k = w4.heap.size \/ k = w4.heap.size + 1) -> k < w2'.heap.size /\ k ≠ r5 /\ NoB w2' k := fun k hk => by
    rcases hk with hk | hk
    ·obtain ⟨v1, v2, v3⟩ := hV k hk
     exact ⟨by omega, by have := g7 k hk; omega, (hVb k hk).at_ (hk2 k v2 v3)⟩
    ·exact ⟨by omega, by omega, fun o ho c fz => hNC k hk o ho c _ fz⟩
   refine zb (zjx g4 p.1 (by omega) hV2) ?_
   rintro _ w5 ⟨rfl, g4', hB, hK⟩
   refine ⟨(((p.1.size : Nat) : Int), .nilIface, ()), rfl, ?_⟩
   have oB : Only (fun k => r5 <= k) w2' w5 := ⟨hB.os, hB.tape, hB.output, hB.size, fun k _ hk => hB.block k (by have : ¬ r5 <= k := hk; omega)⟩
   refine hN' w5 (hRb oB g1) ⟨hRb oB g1, g2.only oB (by show ¬ r5 <= r1; omega), g3.only oB (by show ¬ r5 <= r2; omega), ?_, fun j q hj hq' => ?_, Only.ext g6 oB (fun j hj => by have : r5 <= j := hj; omega), g7, by have := hB.size; omega⟩ hB.size (fun k hk => ?_)
   ·have e1 : ja S n (i + 1) = ja S n i ++ B p.1 := by
     unfold ja
     rw [List.take_add_one, ei, List.flatMap_append]
     simp
    rw [e1]
    exact g4'
   ·by_cases hji : j = i
    ·subst hji
     rw [ei] at hq'
     injection hq' with hq'
     rw [<- hq']; exact hq
    ·exact g5 j q (by omega) hq'
   ·have hk' : V k \/ k = w4.heap.size \/ k = w4.heap.size + 1 := by
     rcases hk with e | e | e
     ·exact .inr (.inl e)
     ·exact .inr (.inr e)
     ·exact .inl e
    obtain ⟨v1, v2, v3⟩ := hV2 k hk'
    exact hK k v1 v2 v3
 ·rintro V w' ⟨g1, g2, g3, g4, g5, g6, g7, g8⟩ _ hsz hdf
  rw [jd]
  refine zb (zhT g4) ?_
  rintro _ w5 ⟨rfl, hB, hK⟩
  refine ⟨_, rfl, ?_⟩
  have oB : Only (fun k => r5 <= k) w' w5 := ⟨hB.os, hB.tape, hB.output, hB.size, fun k _ hk => hB.block k (by have : ¬ r5 <= k := hk; omega)⟩
  have a1 := g2.only oB (by show ¬ r5 <= r1; omega)
  have a2 := g3.only oB (by show ¬ r5 <= r2; omega)
  have hx5 := Only.ext g6 oB (fun j hj => by have : r5 <= j := hj; omega)
  have hdf5 : w5.heap[w4.heap.size]? = some (.deferred (some [])) := by
   rw [hK w4.heap.size (by omega) (by omega) (fun o ho c fz e => by rw [hdf] at ho; injection ho with ho; rw [<- ho] at e; cases e)]
   exact hdf
  refine zO a1 (by show 0 < 1; omega) ?_
  have b1 := a1.set 0 (.string (mkB (ja S n (qQ (zU S n)).length)))
  have b2 := a2.other (p := ⟨r1, 0, none⟩) (by show r1 ≠ r2; omega) (.string (mkB (ja S n (qQ (zU S n)).length)))
  refine zO b2 (by show 0 < 1; omega) ?_
  have c1 := b1.other (p := ⟨r2, 0, none⟩) (by show r2 ≠ r1; omega) (.int .i64 0)
  have c2 := b2.set 0 (.int .i64 0)
  refine jn ?_ ?_
  ·rw [Below.heap_setCell _ _ _ _ (by show w4.heap.size ≠ r2; omega), Below.heap_setCell _ _ _ _ (by show w4.heap.size ≠ r1; omega)]
   exact hdf5
  have hxx := (hx5.set (p := ⟨r1, 0, none⟩) (by show w.heap.size <= r1; omega) (.string (mkB (ja S n (qQ (zU S n)).length)))).set (p := ⟨r2, 0, none⟩) (by show w.heap.size <= r2; omega) (.int .i64 0)
  have hsb := zX (a := w4.heap.size) (b := w4.heap.size + 1) (w := (w5.setCell ⟨r1, 0, none⟩ (.string (mkB (ja S n (qQ (zU S n)).length)))).setCell ⟨r2, 0, none⟩ (.int .i64 0)) (o := .deferred none) (.inl rfl)
  refine zo (x := mkB (ja S n (qQ (zU S n)).length)) (hsb.blk c1 (by omega)) (by rfl) (zo (x := (0 : Int)) (hsb.blk c2 (by omega)) (by rfl) ?_)
  refine ⟨?_, hsb.ext hxx (by omega)⟩
  unfold zbi
  rw [zfp (fun j q hq => g5 j q (by rw [xU]; exact (List.getElem?_eq_some_iff.1 hq).1) hq)]
  unfold ja
  rw [xU, List.take_length]
 ·rintro V c w' ⟨rfl, e, g1, g2, g3, g6, g7, g8⟩ hsz hdf
  rw [jd]
  refine jn hdf ?_
  have hsb := zX (a := w4.heap.size) (b := w4.heap.size + 1) (w := w') (o := .deferred none) (.inl rfl)
  refine zo (x := ByteArray.empty) (hsb.blk g1 (by omega)) (by rfl) (zo (x := e) (hsb.blk g2 (by omega)) (by rfl) ?_)
  rw [g3]
  exact ⟨rfl, hsb.ext g6 (by omega)⟩
end V
/- Blobs: what they tell. -/
namespace V
open Go Go.Proofs Go.RowKit Crc
structure vJ (S : Spa) (n : Nat) (b : ByteArray) (ks : List Nat) : Prop where
 idx : S.page n = (((6 : UInt8), ks, mkB (le 4 b.size)), 0)
 len : ks.length = nparts S.r0 b.size
 data : ∀ i, i < ks.length -> S.page (ks.getD i 0) = (((7 : UInt8), [], part S.r0 b i), 0)
 most : b.size <= qD S.r0
theorem vJ.blob {S : Spa} {R : List Nat} {n : Nat} {b : ByteArray} {ks : List Nat} (h : vJ S n b ks) (hg : Good S R) (hn : zI S.sup.pages S.now n = true) : Blob S n b ks := by
 have hk : ∀ k ∈ ks, zI S.sup.pages S.now k = true := fun k hk => (hg.well.good n hn).2 k (by unfold yp; rw [h.idx]; exact hk)
 refine ⟨by rw [(hg.get hn).1]; exact h.idx, h.len, fun i hi => ?_, h.most⟩
 have hm : ks.getD i 0 ∈ ks := by rw [List.getD_eq_getElem?_getD, List.getElem?_eq_getElem hi]; exact List.getElem_mem hi
 rw [(hg.get (hk _ hm)).1]
 exact h.data i hi
theorem vJ.keep {S S' : Spa} {n : Nat} {b : ByteArray} {ks : List Nat} (h : vJ S n b ks) (hr : S'.r0 = S.r0) (hp : ∀ k, k = n \/ k ∈ ks -> S'.page k = S.page k) : vJ S' n b ks := by
 refine ⟨by rw [hp n (.inl rfl)]; exact h.idx, by rw [hr]; exact h.len, fun i hi => ?_, by rw [hr]; exact h.most⟩
 have hm : ks.getD i 0 ∈ ks := by rw [List.getD_eq_getElem?_getD, List.getElem?_eq_getElem hi]; exact List.getElem_mem hi
 rw [hp _ (.inr hm), hr]
 exact h.data i hi
structure zpz (S S2 : Spa) (R : List Nat) (bs : ByteArray) (n : Nat) (ks : List Nat) : Prop where
 good : Good S2 (n :: R)
 sup : S2.sup = S.sup
 held : S2.held = S.held
 mark : S2.mark = S.mark
 slot : S2.slot = S.slot
 blob : vJ S2 n bs ks
 two : 2 <= n
 lt : n < S.N
 page : ∀ k, zI S.sup.pages S.now k = true -> S2.page k = S.page k
 fresh : S.now.getD n 0 = 0
 one : S2.now.getD n 0 = 1
 now : ∀ k, zI S.sup.pages S.now k = true -> S2.now.getD k 0 = S.now.getD k 0
 free : S.zV = S2.zV + nparts S.r0 bs.size + 1
 z8 : S.z8 = ks ++ n :: S2.z8
 klen : ks.length = nparts S.r0 bs.size
 pen : S2.dev.pen.length = S.dev.pen.length + nparts S.r0 bs.size + 1
 kept : Kept S S2
theorem zoD {S S1 S2 : Spa} {R ks : List Nat} {bs : ByteArray} {n : Nat} (h0 : Good S R) (hm : bs.size <= qD S.r0) (hP : Puts S S1 R ks (vA S.r0 bs (nparts S.r0 bs.size))) (hO : vz S1 S2 ((6 : UInt8), ks, mkB (le 4 bs.size)) n) (hg : Good S2 (n :: R)) : zpz S S2 R bs n ks := by
 have hr1 : S1.r0 = S.r0 := by unfold Spa.r0 Spa.room; rw [hP.sup]
 have hr2 : S2.r0 = S.r0 := by unfold Spa.r0 Spa.room; rw [hO.sup, hP.sup]
 have hkl : ks.length = nparts S.r0 bs.size := by rw [<- hP.len]; simp [vA]
 have hmem : ∀ i, i < ks.length -> ks.getD i 0 ∈ ks := fun i hi => by rw [List.getD_eq_getElem?_getD, List.getElem?_eq_getElem hi]; exact List.getElem_mem hi
 have hnk : n ∉ ks := fun hk => by
  have hf := (zP.1 hO.free).1
  rw [hP.now n, if_pos hk] at hf
  cases hf
 have hfr := zP.1 hO.free
 have hn0 : S.now.getD n 0 = 0 := by
  have := hP.now n
  rw [if_neg hnk] at this
  omega
 have huk : ∀ k, zI S.sup.pages S.now k = true -> k ∉ ks /\ k ≠ n /\ k < S.N := fun k hu => by
  have hpos := (zN.1 hu).2.2
  refine ⟨fun hk => ?_, fun e => ?_, h0.well.lt hu⟩
  ·have := (zP.1 (hP.mem hk).2.2.1).1; omega
  ·rw [e] at hpos; omega
 have hN1 := hP.N
 have hnl : n < S1.now.length := by rw [hP.good.ok.now]; exact hO.lt
 refine ⟨hg, hO.sup.trans hP.sup, hO.held.trans hP.held, hO.mark.trans hP.mark, hO.slot.trans hP.slot, ⟨hO.page, by rw [hr2]; exact hkl, fun i hi => ?_, by rw [hr2]; exact hm⟩, hO.two, by rw [<- hN1]; exact hO.lt, fun k hu => ?_, hn0, by rw [hO.now, ym, if_pos ⟨rfl, hnl⟩], fun k hu => ?_, ?_, ?_, ?_, ?_, ⟨hO.sup.trans hP.sup, hO.held.trans hP.held, hO.mark.trans hP.mark, hO.slot.trans hP.slot, ⟨hO.dim.1.trans hP.dim.1, hO.dim.2.trans hP.dim.2⟩, fun k h0 hk hf => ?_⟩⟩
 ·have hmi := hmem i hi
  rw [hO.other _ (fun e => hnk (e ▸ hmi)) (by rw [hN1]; exact (hP.mem hmi).2.1), hP.page i hi, hr2]
  unfold vA
  rw [List.getD_eq_getElem?_getD, List.getElem?_map, List.getElem?_range (by omega)]
  rfl
 ·obtain ⟨a1, a2, a3⟩ := huk k hu
  rw [hO.other k a2 (by rw [hN1]; exact a3), hP.other k a3 a1]
 ·obtain ⟨a1, a2, a3⟩ := huk k hu
  rw [hO.now, ym, if_neg (fun e => a2 e.1.symm), hP.now k, if_neg a1]
 ·unfold Spa.zV
  rw [hP.free, hO.z8, List.length_append, List.length_cons]
  omega
 ·rw [hP.free, hO.z8]
 ·exact hkl
 ·rw [hO.pen, hP.pen]; omega
 ·rw [hO.read k h0 (by rw [hN1]; exact hk) (fun e => ?_)]
  ·exact hP.kept.read k h0 hk hf
  ·have e : k.toNat = n := by omega
   rw [e] at hf
   rcases hf with hf | hf
   ·have := hO.two; omega
   ·rw [zP.2 ⟨hn0, by rw [<- hP.held]; exact hfr.2.1, by rw [<- hP.mark]; exact hfr.2.2⟩] at hf
    cases hf
theorem zpr {n : Nat} (h : n <= 65536) : lev (B (mkB (le 4 n))) = n := by rw [xj]; exact zgv (by omega)
theorem Blob.qb {S : Spa} {n : Nat} {b : ByteArray} {ks : List Nat} (h : Blob S n b ks) : qb S n = (b.size, ks, 0) := by
 have hb : b.size <= 65536 := by have := h.most; unfold qD at this; omega
 unfold V.qb
 rw [h.idx]
 dsimp only
 rw [if_neg (by simp), if_neg (by simp), if_neg (by rw [xm, zv]; simp), zpr hb, if_neg (by rw [h.len]; omega)]
theorem zgV {S : Spa} {n : Nat} {b : ByteArray} {ks : List Nat} (h : Blob S n b ks) (hr : 1 <= S.r0) : ∀ (j i : Nat), i + j = ks.length -> goS S (b.size - i * S.r0) (ks.drop i) = (List.range j).map fun t => (part S.r0 b (i + t), (0 : Int))
 | 0, i, hi => by
  rw [List.drop_of_length_le (by omega)]
  simp [goS]
 | j + 1, i, hi => by
  have hil : i < ks.length := by omega
  have hd := h.data i hil
  have e : ks.drop i = ks.getD i 0 :: ks.drop (i + 1) := by
   rw [List.drop_eq_getElem_cons hil, List.getD_eq_getElem?_getD, List.getElem?_eq_getElem hil]
   rfl
  have hp := zcf (r := S.r0) (b := b) (i := i) hr (by rw [<- h.len]; exact hil)
  have hpe : zbh S (min (b.size - i * S.r0) S.r0) (ks.getD i 0) = 0 := by
   unfold zbh
   rw [hd]
   dsimp only
   rw [if_neg (by rintro ⟨_, e | e | e⟩; exact e rfl; simp at e; apply e; rw [hp.1]; exact Nat.min_comm _ _)]
  rw [e, goS, hpe, if_neg (by simp), hd]
  have e2 : b.size - i * S.r0 - min (b.size - i * S.r0) S.r0 = b.size - (i + 1) * S.r0 := by
   rw [Nat.add_mul, Nat.one_mul]; omega
  rw [e2, zgV h hr j (i + 1) (by omega), List.range_succ_eq_map, List.map_cons, List.map_map]
  congr 1
  apply List.map_congr_left
  intro t _
  show (part S.r0 b (i + 1 + t), (0 : Int)) = (part S.r0 b (i + (t + 1)), 0)
  rw [show i + 1 + t = i + (t + 1) by omega]
theorem Blob.parts {S : Spa} {n : Nat} {b : ByteArray} {ks : List Nat} (h : Blob S n b ks) (hr : 1 <= S.r0) : zU S n = (List.range ks.length).map fun t => (part S.r0 b t, (0 : Int)) := by
 unfold zU
 rw [h.qb, if_neg (by simp)]
 have := zgV h hr ks.length 0 (by omega)
 rw [Nat.zero_mul, Nat.sub_zero, List.drop_zero] at this
 rw [this]
 apply List.map_congr_left
 intro t _
 rw [Nat.zero_add]
theorem Blob.get {S : Spa} {n : Nat} {b : ByteArray} {ks : List Nat} (h : Blob S n b ks) (hr : 1 <= S.r0) : zbi S n = (b, 0) := by
 unfold zbi
 rw [h.parts hr, zfp (fun j q hq => by
  rw [List.getElem?_map] at hq
  cases hh : (List.range ks.length)[j]? with
  | none => rw [hh] at hq; cases hq
  | some t => rw [hh] at hq; injection hq with hq; rw [<- hq])]
 dsimp only
 have e : ((List.range ks.length).map fun t => (part S.r0 b t, (0 : Int))).flatMap (fun p => B p.1) = (List.range ks.length).flatMap fun t => B (part S.r0 b t) := by
  rw [List.flatMap_map]
 rw [e, zee hr b ks.length (by rw [h.len]; exact Nat.le_refl _), List.take_of_length_le]
 ·rw [ziT]
 ·rw [<- yg, h.len]
  unfold nparts
  have := Nat.lt_mul_div_succ (b.size + S.r0 - 1) (show 0 < S.r0 by omega)
  rw [Nat.mul_comm, Nat.add_mul, Nat.one_mul] at this
  omega
theorem Blob.plen {S : Spa} {n : Nat} {b : ByteArray} {ks : List Nat} (h : Blob S n b ks) (hd : uG S) : (zU S n).length <= 100000 /\ ∀ p ∈ zU S n, p.1.size <= 5000 := by
 obtain ⟨q0, q1, q2, q3⟩ := xN hd
 rw [h.parts (by omega)]
 have hn := zci q1 h.most
 rw [<- h.len] at hn
 refine ⟨by rw [List.length_map, List.length_range]; omega, fun p hp => ?_⟩
 obtain ⟨t, ht, rfl⟩ := List.mem_map.1 hp
 have hp := zcf (r := S.r0) (b := b) (i := t) (by omega) (by rw [<- h.len]; exact List.mem_range.1 ht)
 show (part S.r0 b t).size <= 5000
 omega
end V
/- Spaces after pages were put: plain. catalog.pages, spots. -/
namespace V
open Go Go.Proofs Go.RowKit Crc
theorem Great.made {S S' : Spa} {R R' H ls : List Nat} {M : Option (List Nat)} (h : Great S R H M) (hm : Mk S S' ls) (hg : Good S' R') (hr : S.sup.pages.length <= S'.zV) : Great S' R' H M := by
 have hN := hm.N
 have hb := h.good.dims.blocks
 have hn := h.good.dims.n
 have ho := h.heldOK
 have hP := ho.zmV h.good
 have hslot : ∀ j : Int, j = 0 \/ j = 1 -> (S'.dev.read j).1 = (S.dev.read j).1 := fun j hj => hm.read j (by omega) (by omega) (fun hk => by have := (hm.mem hk).2.1; omega)
 refine ⟨hg, ⟨?_, ?_, ?_, ?_, ?_, ?_⟩, ?_, ?_, ?_⟩
 ·rw [hm.slot]; exact ho.slot
 ·rw [hm.sup]; exact ho.chk
 ·rw [hm.slot, hm.sup, hslot _ ho.slot]; exact ho.cur
 ·rw [hm.slot, hm.sup, hslot _ (by unfold other; split <;> simp)]; exact ho.old
 ·intro i hi
  rw [hm.sup] at hi ⊢
  have hmem : S.sup.pages.getD i 0 ∈ S.sup.pages := by rw [List.getD_eq_getElem?_getD, List.getElem?_eq_getElem hi]; exact List.getElem_mem _
  have hlt := (h.good.well.pgs _ hmem).2.1
  rw [hm.held, hm.dim.1, hm.read _ (by omega) (by omega) ?_]
  ·exact ho.pgs i hi
  ·intro hk
   rw [Int.toNat_natCast] at hk
   have := (zP.1 (hm.mem hk).2.2).1
   have := (hP.at_ _ hmem).2.2
   omega
 ·rw [hm.held]; exact ho.fit
 ·rw [hN, hm.sup, hm.held]
  exact zZ.uH h.hwell (fun m hu => hm.other m (h.hwell.lt hu) (fun hk => by
   have := (zP.1 (hm.mem hk).2.2).2.1
   have := (zN.1 hu).2.2; omega))
 ·rw [hN, hm.sup, hm.mark]
  exact h.mwell.uH (fun m hc _ hmN => hm.other m hmN (fun hk => hc (zP.1 (hm.mem hk).2.2).2.2))
 ·rw [hm.sup]; exact hr
variable {w w' : World} {b db : Nat} {S : Spa} {F : Nat -> Prop} {R H : List Nat} {M : Option (List Nat)}
open Classical in
noncomputable def zdy (r : Nat) (w : World) : Nat := if w.cell? ⟨r, 0, none⟩ = some (.int .u8 3) then 1 else 0
theorem zo9 {r : Nat} {p : Page} {y : SLC} {ty : TypeId} (h : Blk w r (pgV p y) ty) (hp : p.1 ≠ 3) : zdy r w = 0 := by
 unfold zdy
 rw [h.cell, if_neg]
 intro e
 have e : (Value.int .u8 (p.1.toNat : Int)) = .int .u8 3 := Option.some.inj e
 injection e with _ e
 exact hp (UInt8.toNat_inj.1 (by show _ = 3; omega))
theorem zpa {r : Nat} {p : Page} {y : SLC} {ty : TypeId} (h : Blk w r (pgV p y) ty) (hp : p.1 = 3) : zdy r w = 1 := by
 unfold zdy
 rw [h.cell, if_pos]
 show some (Value.int .u8 (p.1.toNat : Int)) = _
 rw [hp]; rfl
theorem zgW (h : ya w b db S F) {n : Nat} {res : Bool} (hn : n < 4294967296) (h0 : (S.get n).2 = 0)
  (hp : ((S.get n).1.1 ≠ 3 /\ res = decide ((S.get n).1.1 = 5)) \/ ((S.get n).1.1 = 3 /\ ∃ k r, (S.get n).1.2.1 = k :: r /\ k < 4294967296 /\ (S.get k).2 = 0 /\ (S.get k).1.1 ≠ 3 /\ res = decide ((S.get k).1.1 = 5))) :
  Calls Tryz.prog 81 #[.pointer (some ⟨b, 0, none⟩), .int .u32 (n : Int)] w (Ret fun v w' => v = .bool res /\ Ext w w') := by
 apply znY
 unfold S81
 refine zb (zgL h hn) ?_
 rintro _ w1 ⟨y, rfl, ho, he1⟩
 refine ⟨(pgT (S.get n).1 y, (S.get n).2, ()), rfl, ?_⟩
 refine yE (vs := pgV (S.get n).1 y) (by rfl) (jS _ _) (fun r2 w2 hb2 he2 hr2 => ?_) (by rfl)
 have ho2 := ho.ext he2
 have he := he1.trans he2
 have hs1 := he1.size
 rw [h0]
 refine ⟨fun t w' => t = ((0 : Int), ()) /\ Ext w w' /\ ∃ (p : Page) (y : SLC), Blk w' r2 (pgV p y) 56 /\ ((p.1 ≠ 3 /\ res = decide (p.1 = 5)) \/ (p.1 = 3 /\ ∃ k r, p.2.1 = k :: r /\ k < 4294967296 /\ (S.get k).2 = 0 /\ (S.get k).1.1 ≠ 3 /\ res = decide ((S.get k).1.1 = 5) /\ Sli (zu .u32) w' y.1 y.2.1 p.2.1)), fun _ w' => zdy r2 w', ⟨rfl, he, (S.get n).1, y, hb2, ?_⟩, ?_⟩
 ·rcases hp with hp | ⟨hp, k, r, e1, e2, e3, e4, e5⟩
  ·exact .inl hp
  ·exact .inr ⟨hp, k, r, e1, e2, e3, e4, e5, ho2.sl⟩
 rintro _ w3 ⟨rfl, he3, p, y', hb3, hc⟩
 refine zf (by rfl) (zE ((p.1.toNat : Nat) : Int) hb3 (by rfl) ?_)
 rcases hc with ⟨h3, hres⟩ | ⟨h3, k, r, e1, e2, e3, e4, e5, hsl⟩
 ·refine zc (beq_eq_false_iff_ne.2 (fun e => h3 (UInt8.toNat_inj.1 (by show _ = 3; omega)))) (zf (by rfl) ?_)
  refine zE ((p.1.toNat : Nat) : Int) hb3 (by rfl) ⟨?_, he3⟩
  rw [hres]
  congr 1
  rw [Bool.eq_iff_iff, beq_iff_eq, decide_eq_true_iff]
  constructor
  ·intro e
   exact UInt8.toNat_inj.1 (by show _ = 5; omega)
  ·intro e; rw [e]; rfl
 ·refine zf (by rw [h3]; rfl) (zn 1 y' hb3 (by rfl) ?_)
  rw [e1] at hsl
  have hl : (k :: r).length = y'.2.1 := hsl.len
  have hle := hsl.le
  simp only [List.length_cons] at hl
  refine zR hsl (by omega) (by omega) ?_
  show ze _ _ [_, .int .u32 ((k : Nat) : Int)] _ _ w3
  refine zb (zgL (h.ext he3) e2) ?_
  rintro _ w4 ⟨y4, rfl, ho4, he4⟩
  refine ⟨(pgT (S.get k).1 y4, (S.get k).2, ()), rfl, ?_⟩
  have hb4 := hb3.ext he4
  refine refill (vs := pgV (S.get k).1 y4) hb4 (by rfl) (jS _ _) (by rfl) ?_
  intro w5 hb5 hx5 hk5 hz5
  refine ⟨⟨by rw [e3], hx5 w (he3.trans he4) (by omega), _, y4, hb5, .inl ⟨e4, e5⟩⟩, ?_⟩
  show zdy r2 w5 < zdy r2 w3
  rw [zo9 hb5 e4, zpa hb3 h3]
  omega
theorem zkz (hg : Good S R) {n : Nat} {ks vs : List Nat} (ht : kU S n ks vs) (hu : zI S.sup.pages S.now n = true) : (S.get n).2 = 0 /\ ((((S.get n).1.1 ≠ 3 /\ true = decide ((S.get n).1.1 = 5)) \/ ((S.get n).1.1 = 3 /\ ∃ k r, (S.get n).1.2.1 = k :: r /\ k < 4294967296 /\ (S.get k).2 = 0 /\ (S.get k).1.1 ≠ 3 /\ true = decide ((S.get k).1.1 = 5)))) := by
 cases ht with
 | one hA =>
  rw [(hA.get hg hu).1]
  exact ⟨rfl, .inl ⟨show (5 : UInt8) ≠ 3 by decide, rfl⟩⟩
 | two m a c h1 h2 h3 h4 h5 h6 h7 h8 =>
  have hkid : yp S.page n = [a, c] := by unfold yp; rw [h6]
  have hua := ((hg.well.good n hu).2 a (by rw [hkid]; simp))
  obtain ⟨a1, a2, a3⟩ := h7.get hg hua
  rw [(hg.get hu).1, h6]
  refine ⟨rfl, .inr ⟨rfl, a, [c], rfl, a3, ?_⟩⟩
  rw [a1]
  exact ⟨rfl, show (5 : UInt8) ≠ 3 by decide, rfl⟩
end V
/- Contracts of the package catalog: spots. -/
namespace V
open Go Go.Proofs Go.RowKit Crc
variable {w w' : World}
def spE : Enc (Nat × Addr) where
 k := 2
 f p := [.int .u64 (p.1 : Int), .pointer (some p.2)]
 len _ := rfl
 one _ := by
  intro v hv
  simp only [List.mem_cons, List.not_mem_nil, or_false] at hv
  rcases hv with rfl | rfl <;> rfl
 pos := by decide
theorem zfq : jN Tryz.prog 135 140 (.agg #[.int .u64 0, .pointer none]) 2 16 := ⟨by kernel_rfl, by kernel_rfl, by kernel_rfl⟩
def adr (A : Option Addr) : Addr := A.getD ⟨0, 0, none⟩
def kW (A : Option Addr) (i : Nat) : Addr := ((adr A).add (i * 5)).add 2
def kX (A : Option Addr) (i : Nat) : Addr := ((adr A).add (i * 2)).add 1
abbrev Spt := Nat × Addr × Nat
def spT (A : Option Addr) (es : List Ent) (i : Nat) : List Spt := (List.range i).filterMap fun j => if (es.getD j zS).2.2.1 = 0 then none else some (1 + j, kW A j, (es.getD j zS).2.2.1)
def spS (A : Option Addr) (ss : List Snp) (i : Nat) : List Spt := (List.range i).filterMap fun j => if (ss.getD j yb).2 = 0 then none else some (100 + j, kX A j, (ss.getD j yb).2)
def yA (x y : SLC) (c : Cat) : List Spt := spT x.1 c.1 c.1.length ++ spS y.1 c.2 c.2.length
def spP (p : Spt) : Nat × Addr := (p.1, p.2.1)
theorem jG (A : Option Addr) (es : List Ent) (i : Nat) : spT A es (i + 1) = spT A es i ++ (if (es.getD i zS).2.2.1 = 0 then [] else [(1 + i, kW A i, (es.getD i zS).2.2.1)]) := by
 unfold spT
 rw [List.range_succ, List.filterMap_append]
 congr 1
 by_cases h : (es.getD i zS).2.2.1 = 0
 ·rw [if_pos h, List.filterMap_cons, if_pos h]; rfl
 ·rw [if_neg h, List.filterMap_cons, if_neg h]; rfl
theorem jH (A : Option Addr) (ss : List Snp) (i : Nat) : spS A ss (i + 1) = spS A ss i ++ (if (ss.getD i yb).2 = 0 then [] else [(100 + i, kX A i, (ss.getD i yb).2)]) := by
 unfold spS
 rw [List.range_succ, List.filterMap_append]
 congr 1
 by_cases h : (ss.getD i yb).2 = 0
 ·rw [if_pos h, List.filterMap_cons, if_pos h]; rfl
 ·rw [if_neg h, List.filterMap_cons, if_neg h]; rfl
theorem zeT (A : Option Addr) (es : List Ent) (i : Nat) : (spT A es i).length <= i := by
 have := List.length_filterMap_le (fun j => if (es.getD j zS).2.2.1 = 0 then none else some (1 + j, kW A j, (es.getD j zS).2.2.1)) (List.range i)
 rwa [List.length_range] at this
theorem zir (A : Option Addr) (ss : List Snp) (i : Nat) : (spS A ss i).length <= i := by
 have := List.length_filterMap_le (fun j => if (ss.getD j yb).2 = 0 then none else some (100 + j, kX A j, (ss.getD j yb).2)) (List.range i)
 rwa [List.length_range] at this
theorem zc4 {r : Nat} {t : TypeId} {x y : SLC} {c : Cat} (hb : Blk w r (zY x y) t) (h : qA w x y c) (h1 : c.1.length <= 1000) (h2 : c.2.length <= 1000) :
  Calls Tryz.prog 83 #[.pointer (some ⟨r, 0, none⟩)] w (Ret fun v w' => ∃ A k, v = .slice A (yA x y c).length k /\ Owni spE 140 w' w.heap.size A (yA x y c).length k ((yA x y c).map spP) /\ Ext w w') := by
 obtain ⟨⟨raws, hT⟩, hs, hcx, hcy⟩ := h
 have hxl := hT.sl.len
 have hyl := hs.len
 have hlr := hT.len
 apply zn0
 unfold S83
 refine zs (zE x hb (by rfl) ?_)
 refine zx (fun q w' => ∃ (i : Nat) (A : Option Addr) (k : Nat), i <= c.1.length /\ q = ((A, (spT x.1 c.1 i).length, k), (i : Int), ()) /\ Ext w w' /\ Owni spE 140 w' w.heap.size A (spT x.1 c.1 i).length k ((spT x.1 c.1 i).map spP)) (fun q => (c.1.length - q.2.1).toNat) ⟨0, none, 0, by omega, rfl, Ext.refl _, Owni.nil _ _ _⟩ ?_
 rintro _ w1 ⟨i, A, k, hi, rfl, he1, ho⟩
 dsimp only
 have hb1 := hb.ext he1
 by_cases hlt : i < c.1.length
 ·refine zf (decide_eq_true (by omega)) (zs (zE x hb1 (by rfl) ?_))
  refine zfL (E := yn) 2 (fun e : Raw => ((e.2.2.1 : Nat) : Int)) yi (hT.sl.ext he1) (fun _ => rfl) rfl (by omega) (by omega) ?_
  rw [Int.toNat_natCast, show (raws.getD i yi).2.2.1 = (c.1.getD i zS).2.2.1 by rw [(hT.at_ i hlt).rest]]
  have hw : IntKind.wrap .i64 ((i : Int) + 1) = ((i + 1 : Nat) : Int) := by rw [wrap_i64 (by omega) (by omega)]; rfl
  have hn := zeT x.1 c.1 i
  have hsu := jG x.1 c.1 i
  refine zg (fun hq => ?_) (fun hq => ?_)
  ·have hq : ¬ (c.1.getD i zS).2.2.1 = 0 := fun e => by rw [e] at hq; cases hq
   rw [if_neg hq] at hsu
   refine zs (zE x hb1 (by rfl) (zJ ⟨by omega, by omega⟩ ?_))
   obtain ⟨a, ha, hsp, hcs⟩ := hT.sl.2.2 (by omega)
   refine ⟨a, ha, ?_⟩
   show zi _ _ _
   have hkey : IntKind.wrap .u64 (IntKind.wrap .i64 (1 + (i : Int))) = ((1 + i : Nat) : Int) := by rw [wrap_i64 (by omega) (by omega), show (1 : Int) + (i : Int) = ((1 + i : Nat) : Int) by omega, zy (by omega)]
   rw [hkey, hw]
   have hadr : (a.add (i * 5)).add 2 = kW x.1 i := by unfold kW adr; rw [ha]; rfl
   rw [hadr]
   refine yZ (E := spE) (ys := [(1 + i, kW x.1 i)]) (by rfl) rfl zfq ho he1.size (by omega) (by omega) ?_
   intro A2 k2 w2 ho2 hg2
   refine ⟨⟨i + 1, A2, k2, by omega, ?_, he1.grown hg2.grown ho.row, ?_⟩, by omega⟩
   ·rw [hsu, List.length_append]; rfl
   ·rw [hsu, List.length_append, List.map_append]
    exact ho2
  ·have hq : (c.1.getD i zS).2.2.1 = 0 := by have := bne_eq_false_iff_eq.1 hq; omega
   rw [if_pos hq, List.append_nil] at hsu
   rw [hw]
   exact ⟨⟨i + 1, A, k, by omega, by rw [hsu], he1, by rw [hsu]; exact ho⟩, by omega⟩
 ·obtain rfl : i = c.1.length := by omega
  refine zc (decide_eq_false (by omega)) (zs (zn 1 y hb1 (by rfl) ?_))
  have hn1 := zeT x.1 c.1 c.1.length
  have hnil : spT x.1 c.1 c.1.length ++ spS y.1 c.2 0 = spT x.1 c.1 c.1.length := by simp [spS]
  refine zx (fun q w' => ∃ (i : Nat) (A : Option Addr) (k : Nat), i <= c.2.length /\ q = ((A, (spT x.1 c.1 c.1.length ++ spS y.1 c.2 i).length, k), (i : Int), ()) /\ Ext w w' /\ Owni spE 140 w' w.heap.size A (spT x.1 c.1 c.1.length ++ spS y.1 c.2 i).length k ((spT x.1 c.1 c.1.length ++ spS y.1 c.2 i).map spP)) (fun q => (c.2.length - q.2.1).toNat) ⟨0, A, k, by omega, by rw [hnil]; rfl, he1, by rw [hnil]; exact ho⟩ ?_
  rintro _ w2 ⟨i, A, k, hi, rfl, he2, ho⟩
  dsimp only
  have hb2 := hb.ext he2
  by_cases hlt : i < c.2.length
  ·refine zf (decide_eq_true (by omega)) (zs (zn 1 y hb2 (by rfl) ?_))
   refine zfL (E := xv) 1 (fun e : Snp => ((e.2 : Nat) : Int)) yb (hs.ext he2) (fun _ => rfl) rfl (by omega) (by omega) ?_
   rw [Int.toNat_natCast]
   have hw : IntKind.wrap .i64 ((i : Int) + 1) = ((i + 1 : Nat) : Int) := by rw [wrap_i64 (by omega) (by omega)]; rfl
   have hn := zir y.1 c.2 i
   have hsu := jH y.1 c.2 i
   have hnl : (spT x.1 c.1 c.1.length ++ spS y.1 c.2 i).length <= 2000 := by rw [List.length_append]; omega
   refine zg (fun hq => ?_) (fun hq => ?_)
   ·have hq : ¬ (c.2.getD i yb).2 = 0 := fun e => by rw [e] at hq; cases hq
    rw [if_neg hq] at hsu
    refine zs (zn 1 y hb2 (by rfl) (zJ ⟨by omega, by omega⟩ ?_))
    obtain ⟨a, ha, hsp, hcs⟩ := hs.2.2 (by omega)
    refine ⟨a, ha, ?_⟩
    show zi _ _ _
    have hkey : IntKind.wrap .u64 (IntKind.wrap .i64 (100 + (i : Int))) = ((100 + i : Nat) : Int) := by rw [wrap_i64 (by omega) (by omega), show (100 : Int) + (i : Int) = ((100 + i : Nat) : Int) by omega, zy (by omega)]
    rw [hkey, hw]
    have hadr : (a.add (i * 2)).add 1 = kX y.1 i := by unfold kX adr; rw [ha]; rfl
    rw [hadr]
    refine yZ (E := spE) (ys := [(100 + i, kX y.1 i)]) (by rfl) rfl zfq ho he2.size (by omega) (by omega) ?_
    intro A2 k2 w3 ho3 hg3
    refine ⟨⟨i + 1, A2, k2, by omega, ?_, he2.grown hg3.grown ho.row, ?_⟩, by omega⟩
    ·rw [hsu, <- List.append_assoc, List.length_append (bs := [_])]; rfl
    ·rw [hsu, <- List.append_assoc, List.length_append (bs := [_]), List.map_append (l₂ := [_])]
     exact ho3
   ·have hq : (c.2.getD i yb).2 = 0 := by have := bne_eq_false_iff_eq.1 hq; omega
    rw [if_pos hq, List.append_nil] at hsu
    rw [hw]
    exact ⟨⟨i + 1, A, k, by omega, by rw [hsu], he2, by rw [hsu]; exact ho⟩, by omega⟩
  ·obtain rfl : i = c.2.length := by omega
   refine zc (decide_eq_false (by omega)) ?_
   exact ⟨A, k, rfl, ho, he2⟩
end V
/- Catalogs as trees: plain. -/
namespace V
open Go Go.Proofs Go.RowKit Crc
def kvC (c : Cat) : List (Nat × Nat) := (yA (none, 0, 0) (none, 0, 0) c).map fun p => (p.1, p.2.2)
def qF (c : Cat) : List Nat := (kvC c).map fun p => p.1
def xt (c : Cat) : List Nat := (kvC c).map fun p => p.2
theorem zgX (A A' : Option Addr) (es : List Ent) : ∀ i, (spT A es i).map (fun p => (p.1, p.2.2)) = (spT A' es i).map fun p => (p.1, p.2.2)
 | 0 => rfl
 | i + 1 => by
  rw [jG, jG, List.map_append, List.map_append, zgX A A' es i]
  congr 1
  split <;> rfl
theorem zgY (A A' : Option Addr) (ss : List Snp) : ∀ i, (spS A ss i).map (fun p => (p.1, p.2.2)) = (spS A' ss i).map fun p => (p.1, p.2.2)
 | 0 => rfl
 | i + 1 => by
  rw [jH, jH, List.map_append, List.map_append, zgY A A' ss i]
  congr 1
  split <;> rfl
theorem zdz (x y : SLC) (c : Cat) : (yA x y c).map (fun p => (p.1, p.2.2)) = kvC c := by
 unfold kvC yA
 rw [List.map_append, List.map_append, zgX x.1 none, zgY y.1 none]
theorem zcl (x y : SLC) (c : Cat) : (yA x y c).length = (kvC c).length := by rw [<- zdz x y c, List.length_map]
theorem zkA (c : Cat) : (kvC c).length <= c.1.length + c.2.length := by
 rw [<- zcl (none, 0, 0) (none, 0, 0)]
 unfold yA
 rw [List.length_append]
 have := zeT none c.1 c.1.length
 have := zir none c.2 c.2.length
 dsimp only
 omega
theorem zgZ (es : List Ent) : ∀ i, ((spT none es i).map fun p => p.1).Pairwise (· < ·) /\ ∀ k ∈ (spT none es i).map (fun p => p.1), 1 <= k /\ k <= i
 | 0 => ⟨.nil, by simp [spT]⟩
 | i + 1 => by
  obtain ⟨h1, h2⟩ := zgZ es i
  rw [jG, List.map_append]
  constructor
  ·rw [List.pairwise_append]
   refine ⟨h1, by split <;> simp, fun a ha b hb => ?_⟩
   have := h2 a ha
   split at hb
   ·simp at hb
   ·simp at hb; omega
  ·intro k hk
   rcases List.mem_append.1 hk with e | e
   ·have := h2 k e; omega
   ·split at e
    ·simp at e
    ·simp at e; omega
theorem zg0 (ss : List Snp) : ∀ i, ((spS none ss i).map fun p => p.1).Pairwise (· < ·) /\ ∀ k ∈ (spS none ss i).map (fun p => p.1), 100 <= k /\ k < 100 + i
 | 0 => ⟨.nil, by simp [spS]⟩
 | i + 1 => by
  obtain ⟨h1, h2⟩ := zg0 ss i
  rw [jH, List.map_append]
  constructor
  ·rw [List.pairwise_append]
   refine ⟨h1, by split <;> simp, fun a ha b hb => ?_⟩
   have := h2 a ha
   split at hb
   ·simp at hb
   ·simp at hb; omega
  ·intro k hk
   rcases List.mem_append.1 hk with e | e
   ·have := h2 k e; omega
   ·split at e
    ·simp at e
    ·simp at e; omega
theorem keys_eq (c : Cat) : qF c = (spT none c.1 c.1.length).map (fun p => p.1) ++ (spS none c.2 c.2.length).map (fun p => p.1) := by
 unfold qF kvC yA
 rw [List.map_map, List.map_append]
 rfl
theorem zoE {c : Cat} (h1 : c.1.length <= 16) (h2 : c.2.length <= 16) : (0 :: qF c).Pairwise (· < ·) /\ ∀ k ∈ 0 :: qF c, k < 200 := by
 obtain ⟨a1, a2⟩ := zgZ c.1 c.1.length
 obtain ⟨b1, b2⟩ := zg0 c.2 c.2.length
 rw [keys_eq]
 constructor
 ·rw [List.pairwise_cons, List.pairwise_append]
  refine ⟨fun k hk => ?_, a1, b1, fun x hx y hy => ?_⟩
  ·rcases List.mem_append.1 hk with e | e
   ·have := a2 k e; omega
   ·have := b2 k e; omega
  ·have := a2 x hx
   have := b2 y hy
   omega
 ·intro k hk
  rcases List.mem_cons.1 hk with rfl | hk
  ·omega
  ·rcases List.mem_append.1 hk with e | e
   ·have := a2 k e; omega
   ·have := b2 k e; omega
theorem zg1 : ∀ {l : List Nat}, l.Pairwise (· < ·) -> xE l = true
 | [], _ => rfl
 | [_], _ => rfl
 | a :: b :: r, h => by
  rw [List.pairwise_cons] at h
  show (decide (a < b) && xE (b :: r)) = true
  rw [decide_eq_true (h.1 b (by simp)), zg1 h.2]; rfl
structure zmY (S : Spa) (n : Nat) (c : Cat) : Prop where
 isC : ko c
 tree : ∃ bn bks, kU S n (0 :: qF c) (bn :: xt c) /\ vJ S bn (V.mkB (x6 c)) bks
end V
/- Contracts of the package catalog: Put. -/
namespace V
open Go Go.Proofs Go.RowKit Crc
variable {w w' : World} {b db : Nat} {S : Spa} {F : Nat -> Prop} {R H : List Nat} {M : Option (List Nat)}
theorem zoF (h : ya w b db S F) (hg : Great S R H M) (hpen : S.dev.pen.length <= 900000) {bs : ByteArray} (hbs : bs.size <= qD S.r0) (hf : S.sup.pages.length + nparts S.r0 bs.size + 1 <= S.zV) :
  Calls Tryz.prog 85 #[.pointer (some ⟨b, 0, none⟩), .string bs] w (Ret fun v w' => ∃ (S2 : Spa) (n : Nat) (ks ls : List Nat), v = .tuple #[.int .u32 (n : Int), .int .i64 0] /\ Mk S S2 ls /\ ls.length = nparts S.r0 bs.size + 1 /\ Great S2 (n :: R) H M /\ vJ S2 n bs ks /\ S2.now.getD n 0 = 1 /\ yx w b db F S2 w') := by
 obtain ⟨q0, q1, q2, q3⟩ := xN hg.good.dims
 have hm : qD S.r0 <= 65536 := by unfold qD; omega
 obtain ⟨Fd, x, hb, hr, nb, nr, m, h'⟩ := h
 refine (zjq h' hg.good hpen bs (by omega)).mono (Ret.mono ?_)
 rintro v w' (⟨h1, _⟩ | ⟨_, h2, S1, S2, ks, n, hP, hO, hG, rfl, hst⟩ | ⟨_, h2, _⟩)
 ·omega
 ·have hB := zoD hg.good hbs hP hO hG
  have hlen : S1.now.length = S1.N := hP.good.well.len
  have hMk : Mk S S2 (ks ++ [n]) := hP.mk_.trans (hO.mk_ hlen)
  refine ⟨S2, n, ks, ks ++ [n], rfl, hMk, by rw [List.length_append, hB.klen]; rfl, hg.made hMk hG (by have := hB.free; omega), hB.blob, hB.one, hst⟩
 ·omega
structure zpb (S S' : Spa) (n : Nat) (c : Cat) (ls R H : List Nat) (M : Option (List Nat)) : Prop where
 made : Mk S S' ls
 great : Great S' (n :: R) H M
 pg : zmY S' n c
 few : ls.length <= nparts S.r0 (x6 c).length + 4
theorem zps {x : SLC} {raws : List Raw} {es : List Ent} (h : uF w x raws es) {i : Nat} (hi : i < es.length) : w.cell? (kW x.1 i) = some (.int .u32 ((es.getD i zS).2.2.1 : Int)) := by
 have hl := h.len
 have g : raws[i]? = some (raws.getD i yi) := by rw [List.getD_eq_getElem?_getD, List.getElem?_eq_getElem (by omega)]; rfl
 obtain ⟨a, ha, hsp, hc⟩ := h.sl.at_ g
 obtain ⟨_, _, h2, _⟩ := hc
 have : kW x.1 i = (a.add (i * 5)).add 2 := by unfold kW adr; rw [ha]; rfl
 rw [this, <- (h.at_ i hi).rest]
 exact h2
theorem zpt {y : SLC} {ss : List Snp} (h : Sli xv w y.1 y.2.1 ss) {i : Nat} (hi : i < ss.length) : w.cell? (kX y.1 i) = some (.int .u32 ((ss.getD i yb).2 : Int)) := by
 have g : ss[i]? = some (ss.getD i yb) := by rw [List.getD_eq_getElem?_getD, List.getElem?_eq_getElem hi]; rfl
 obtain ⟨a, ha, hsp, hc⟩ := h.at_ g
 obtain ⟨_, h1, _⟩ := hc
 have : kX y.1 i = (a.add (i * 2)).add 1 := by unfold kX adr; rw [ha]; rfl
 rw [this]
 exact h1
theorem zc5 {x y : SLC} {c : Cat} (h : qA w x y c) : ∀ p ∈ yA x y c, w.cell? p.2.1 = some (.int .u32 (p.2.2 : Int)) := by
 obtain ⟨⟨raws, hT⟩, hs, _⟩ := h
 intro p hp
 unfold yA at hp
 rcases List.mem_append.1 hp with e | e
 ·unfold spT at e
  obtain ⟨i, hi, e⟩ := List.mem_filterMap.1 e
  rw [List.mem_range] at hi
  split at e
  ·cases e
  ·injection e with e
   subst e
   exact zps hT hi
 ·unfold spS at e
  obtain ⟨i, hi, e⟩ := List.mem_filterMap.1 e
  rw [List.mem_range] at hi
  split at e
  ·cases e
  ·injection e with e
   subst e
   exact zpt hs hi
end V
/- Contracts of the package catalog: Put, whole. -/
namespace V
open Go Go.Proofs Go.RowKit Crc
variable {w w' : World} {b db : Nat} {S : Spa} {F : Nat -> Prop} {R H : List Nat} {M : Option (List Nat)}
structure vZ (w0 w : World) (A1 A2 : Option Addr) (n c1 c2 : Nat) (ks vs : List Nat) : Prop where
 ext : Ext w0 w
 ks : Owni (zu .u64) 42 w w0.heap.size A1 n c1 ks
 vs : Owni (zu .u64) 42 w w0.heap.size A2 n c2 vs
 ne : ∀ j, orow A1 = some j -> orow A2 ≠ some j
theorem vZ.ext' {w0 : World} {A1 A2 : Option Addr} {n c1 c2 : Nat} {ks vs : List Nat} (h : vZ w0 w A1 A2 n c1 c2 ks vs) (he : Ext w w') : vZ w0 w' A1 A2 n c1 c2 ks vs := ⟨h.ext.trans he, h.ks.ext he, h.vs.ext he, h.ne⟩
theorem zdA {w0 : World} {A1 A2 : Option Addr} {n c1 c2 k rk : Nat} {ks vs : List Nat} {t1 : TypeId} {K1 : SLC -> WP} (h : vZ w0 w A1 A2 n c1 c2 ks vs) (hk : Blk w rk [.int .u64 (k : Int)] t1) (hn : n <= 1000000)
  (hK : ∀ A1' c1' w1, Owni (zu .u64) 42 w1 w0.heap.size A1' (n + 1) c1' (ks ++ [k]) -> Owni (zu .u64) 42 w1 w0.heap.size A2 n c2 vs -> (∀ j, orow A1' = some j -> orow A2 ≠ some j) -> Ext w0 w1 -> w.heap.size <= w1.heap.size -> (∀ q, orow A1 ≠ some q -> q < w.heap.size -> w1.heap[q]? = w.heap[q]?) -> K1 (A1', n + 1, c1') w1) :
  zw Tryz.prog (Builtin.append_ #[129, 129] 129 #[.slice A1 n c1, .slice (some (aD rk)) 1 1]) .slc K1 w := by
 have hx : Sli (zu .u64) w (some ⟨rk, 0, none⟩) 1 [k] := Sli.xJ (E := zu .u64) (xs := [k]) hk rfl (by omega)
 refine xi kA h.ks h.ext.size hx (by omega) (by omega) ?_
 intro A1' c1' w1 ho hg _
 have hs := hg.grown.size
 refine hK A1' c1' w1 ho (h.vs.grown hg.grown (fun j hj => h.ne j hj)) (fun j hj e => ?_) (h.ext.grown hg.grown h.ks.row) hs (fun q hq hlt => hg.grown.block q hlt (fun e => hq e.symm))
 rcases hg.next j hj with e1 | e1
 ·exact h.ne j e1 e
 ·have := h.vs.yc j e; omega
theorem zdB {w0 : World} {A1 A2 : Option Addr} {n c1 c2 v rv : Nat} {ks vs : List Nat} {t2 : TypeId} {K1 : SLC -> WP} (h1 : Owni (zu .u64) 42 w w0.heap.size A1 (n + 1) c1 ks) (h2 : Owni (zu .u64) 42 w w0.heap.size A2 n c2 vs) (hne : ∀ j, orow A1 = some j -> orow A2 ≠ some j) (he : Ext w0 w) (hv : Blk w rv [.int .u64 (v : Int)] t2) (hn : n <= 1000000)
  (hK : ∀ A2' c2' w1, vZ w0 w1 A1 A2' (n + 1) c1 c2' ks (vs ++ [v]) -> w.heap.size <= w1.heap.size -> (∀ q, orow A2 ≠ some q -> q < w.heap.size -> w1.heap[q]? = w.heap[q]?) -> K1 (A2', n + 1, c2') w1) :
  zw Tryz.prog (Builtin.append_ #[129, 129] 129 #[.slice A2 n c2, .slice (some (aD rv)) 1 1]) .slc K1 w := by
 have hx : Sli (zu .u64) w (some ⟨rv, 0, none⟩) 1 [v] := Sli.xJ (E := zu .u64) (xs := [v]) hv rfl (by omega)
 refine xi kA h2 he.size hx (by omega) (by omega) ?_
 intro A2' c2' w1 ho hg _
 have hs := hg.grown.size
 refine hK A2' c2' w1 ⟨he.grown hg.grown h2.row, h1.grown hg.grown (fun j hj e => hne j e hj), ho, fun j hj e => ?_⟩ hs (fun q hq hlt => hg.grown.block q hlt (fun e => hq e.symm))
 rcases hg.next j e with e1 | e1
 ·exact hne j hj e1
 ·have := h1.yc j hj; omega
theorem zcm (h : ya w b db S F) {x y : SLC} {c : Cat} (hC : ∀ w', Only F w w' -> qA w' x y c) (hok : kg c = true) (hg : Great S (xt c ++ R) H M) (hpen : S.dev.pen.length <= 500000) (hr : 204 <= S.r0) (hmost : (x6 c).length <= qD S.r0)
  (hf : S.sup.pages.length + nparts S.r0 (x6 c).length + 4 <= S.zV) (h6 : ∀ v ∈ xt c, S.now.getD v 0 < 65535) :
  Calls Tryz.prog 27 #[.pointer (some ⟨b, 0, none⟩), .agg (zY x y).toArray] w (Ret fun v w' => (c = za2 /\ v = .tuple #[.int .u32 0, .int .i64 0] /\ yx w b db F S w') \/ (c ≠ za2 /\ ∃ (S' : Spa) (n : Nat) (ls : List Nat), v = .tuple #[.int .u32 (n : Int), .int .i64 0] /\ zpb S S' n c ls R H M /\ yx w b db F S' w')) := by
 obtain ⟨q0, q1, q2, q3⟩ := xN hg.good.dims
 have hIs := vC.1 hok
 have ht16 := hIs.tabs
 have hs16 := hIs.snaps
 have hFlt := h.lt
 have hC0 := hC w (Only.refl F w)
 have hxl : c.1.length = x.2.1 := by obtain ⟨⟨raws, hT⟩, _⟩ := hC0; rw [<- hT.len]; exact hT.sl.len
 have hyl : c.2.length = y.2.1 := hC0.2.1.len
 apply znq
 unfold S27
 refine zr fun r1 w1 hb1 he1 hr1 hz1 => ?_
 have hb1 : Blk w1 r1 (zY x y) 25 := hb1
 have hr1F : ¬ F r1 := fun hf => by have := hFlt _ hf; omega
 refine zW (ls := xV) (xZ x y) hb1 (by rfl) ?_
 refine zb (zeQ (hC0.ext he1)) ?_
 rintro _ w2 ⟨rfl, he2⟩
 have eB : zbT c = (mkB (x6 c), 0) := by unfold zbT; rw [if_pos hok]
 rw [eB]
 refine ⟨(mkB (x6 c), 0, ()), rfl, zc (by rfl) ?_⟩
 have hb2 := hb1.ext he2
 have he02 := he1.trans he2
 refine zE x hb2 (by rfl) (zn 1 y hb2 (by rfl) ?_)
 rw [show IntKind.wrap .i64 (((x.2.1 : Nat) : Int) + ((y.2.1 : Nat) : Int)) = ((x.2.1 + y.2.1 : Nat) : Int) by rw [wrap_i64 (by omega) (by omega)]; omega]
 by_cases h0 : c = za2
 ·refine zf (beq_iff_eq.2 ?_) (.inl ⟨h0, rfl, yx.ext h he02⟩)
  rw [h0] at hxl hyl
  have : x.2.1 = 0 := hxl.symm
  have : y.2.1 = 0 := hyl.symm
  omega
 have hne : ¬ (x.2.1 + y.2.1 = 0) := fun e => h0 (Prod.ext (List.eq_nil_of_length_eq_zero (by omega)) (List.eq_nil_of_length_eq_zero (by omega)))
 refine zc (beq_eq_false_iff_ne.2 (by omega)) ?_
 have hmk : (mkB (x6 c)).size = (x6 c).length := xm _
 refine zb (zoF (h.ext he02) hg (by omega) (by rw [hmk]; exact hmost) (by rw [hmk]; omega)) ?_
 rintro _ w3 ⟨S2, bn, bks, ls, rfl, hMk, hll, hG2, hBl, hone, F3, h3, hF3, hO3⟩
 refine ⟨((bn : Int), 0, ()), rfl, zc (by rfl) ?_⟩
 have hb3 := hb2.only hO3 hr1F
 have hO03 : Only F w w3 := Only.trans (Only.zG he02) hO3 (fun j hj => .inl hj)
 have hs02 := he02.size
 have hs3 := hO3.2.2.2.1
 have hF30 : ∀ k, F3 k -> F k \/ w.heap.size <= k := fun k hk => by
  rcases hF3 k hk with e | e
  ·exact .inl e
  ·exact .inr (by omega)
 have hbn32 : bn < 4294967296 := by
  have := hG2.good.well.lt (hG2.good.well.root bn List.mem_cons_self)
  have := hG2.good.dims.n
  omega
 refine zeP (B := w3.heap.size) (Nat.le_refl _) (by simp) fun r7 w4 hK0 he4 hr7 hz4 => ?_
 rw [zy (by omega)]
 refine zeP (B := w3.heap.size) (by omega) (by simp) fun r8 w5 hV0 he5 hr8 hz5 => ?_
 have he35 := he4.trans he5
 have hC5 : qA w5 x y c := (hC w3 hO03).ext he35
 have hb5 := hb3.ext he35
 refine zb (zc4 hb5 hC5 (by omega) (by omega)) ?_
 rintro _ w6 ⟨Asp, ksp, rfl, hsp, he6⟩
 refine ⟨(Asp, (yA x y c).length, ksp), rfl, ?_⟩
 have he36 := he35.trans he6
 have hC6 := hC5.ext he6
 have hcell := zc5 hC6
 have hsl := hsp.sl
 have hkvl := zkA c
 have hspl := zcl x y c
 have hkv := zdz x y c
 generalize hspots : yA x y c = sp at *
 have hts : vZ w3 w6 (some ⟨r7, 0, none⟩) (some ⟨r8, 0, none⟩) 1 1 1 [0] [bn] := ⟨he36, ((show Owni (zu .u64) 42 w4 w3.heap.size (some ⟨r7, 0, none⟩) 1 1 [0] from hK0).ext he5).ext he6, (show Owni (zu .u64) 42 w5 w3.heap.size (some ⟨r8, 0, none⟩) 1 1 [bn] from hV0).ext he6, fun j hj e => by
  have e1 : r7 = j := Option.some.inj hj
  have e2 : r8 = j := Option.some.inj e
  omega⟩
 dsimp only
 have hcell3 : ∀ p ∈ sp, ∀ {w9 : World}, Ext w3 w9 -> w9.cell? p.2.1 = some (.int .u32 (p.2.2 : Int)) := fun p hp w9 he9 => by
  have := zc5 (hC w3 hO03) p (by rw [hspots]; exact hp)
  exact he9.cell this
 have hroot : ∀ p ∈ sp, p.2.2 ∈ xt c := fun p hp => by
  unfold xt
  rw [<- hkv, List.map_map]
  exact List.mem_map.2 ⟨p, hp, rfl⟩
 have hspsz : sp.length <= 32 := by omega
 have hr32 : ∀ v ∈ xt c, v < 4294967296 := fun v hv => by
  have := hg.good.well.lt (hg.good.well.root v (List.mem_append_left _ hv))
  have := hg.good.dims.n
  omega
 refine zx (fun q w' => ∃ (i : Nat) (A1 A2 : Option Addr) (c1 c2 : Nat), i <= sp.length /\ q = ((A1, i + 1, c1), (A2, i + 1, c2), (i : Int), ()) /\ vZ w3 w' A1 A2 (i + 1) c1 c2 (0 :: (sp.take i).map fun p => p.1) (bn :: (sp.take i).map fun p => p.2.2) /\ Owni spE 140 w' w5.heap.size Asp sp.length ksp (sp.map spP)) (fun q => (sp.length - q.2.2.1).toNat) ⟨0, _, _, 1, 1, by omega, rfl, hts, hsp⟩ ?_
 rintro _ w7 ⟨i, A1, A2, c1, c2, hi, rfl, ht7, hs7⟩
 dsimp only
 by_cases hlt : i < sp.length
 ·refine zf (decide_eq_true (by omega)) ?_
  have eg : (sp.map spP)[i]? = some (spP (sp[i]'hlt)) := by rw [List.getElem?_map, List.getElem?_eq_getElem hlt]; rfl
  have hmem : sp[i]'hlt ∈ sp := List.getElem_mem hlt
  have tk : sp.take (i + 1) = sp.take i ++ [sp[i]'hlt] := List.take_succ_eq_append_getElem hlt
  generalize sp[i]'hlt = p at *
  refine xS hs7.sl (by omega) (x := spP p) (by rw [Int.toNat_natCast]; exact eg) rfl ?_
  intro pa hpa hca
  refine qv (ls := [.int .u64, .ptr]) (x := ((p.1 : Int), some p.2.1, ())) hca ?_
  refine yE (vs := [.int .u64 (p.1 : Int), .pointer (some p.2.1)]) (by rfl) (by
   intro v hv
   simp only [List.mem_cons, List.not_mem_nil, or_false] at hv
   rcases hv with rfl | rfl <;> rfl) (fun r14 w8 hb14 he8 hr14 => ?_) (by rfl)
  refine zK fun w9 he9 hz9 hh9 => ?_
  have hb14 := hb14.ext he9
  have he89 := he8.trans he9
  have ht9 := ht7.ext' he89
  have hs9 := hs7.ext he89
  refine zE ((p.1 : Nat) : Int) hb14 (by rfl) (zn 1 (some p.2.1) hb14 (by rfl) (zs ?_))
  refine zaT (l := .int .u32) (x := ((p.2.2 : Nat) : Int)) (hcell3 p hmem ht9.ext) ?_
  have hv32 := hr32 _ (hroot p hmem)
  rw [show IntKind.wrap .u64 ((p.2.2 : Nat) : Int) = ((p.2.2 : Nat) : Int) from zy (by omega)]
  have hw : IntKind.wrap .i64 ((i : Int) + 1) = ((i + 1 : Nat) : Int) := by rw [wrap_i64 (by omega) (by omega)]; rfl
  rw [hw]
  have neR : ∀ {w' : World} {A : Option Addr} {n c0 : Nat} {xs : List Nat}, Owni (zu .u64) 42 w' w3.heap.size A n c0 xs -> Blk w' r14 [.int .u64 (p.1 : Int), .pointer (some p.2.1)] 140 -> orow A ≠ some r14 := fun ho hb e => Own.neB (show Own 42 _ _ _ _ _ _ from ho) hb (by decide) _ e rfl
  have hp17 : ∀ {w' : World}, Ext w3 w' -> HL w' [(p.2.1, .int .u32 ((p.2.2 : Nat) : Int))] := fun he q hq => by rw [List.mem_singleton.1 hq]; exact hcell3 p hmem he
  have fin : ∀ {w' : World} {A1' A2' : Option Addr} {c1' c2' : Nat}, vZ w3 w' A1' A2' (i + 1 + 1) c1' c2' ((0 :: (sp.take i).map fun p => p.1) ++ [p.1]) ((bn :: (sp.take i).map fun p => p.2.2) ++ [p.2.2]) -> Owni spE 140 w' w5.heap.size Asp sp.length ksp (sp.map spP) ->
    (∃ (j : Nat) (B1 B2 : Option Addr) (d1 d2 : Nat), j <= sp.length /\ (((A1', i + 1 + 1, c1'), (A2', i + 1 + 1, c2'), ((i + 1 : Nat) : Int), ()) : SLC × SLC × Int × Unit) = ((B1, j + 1, d1), (B2, j + 1, d2), (j : Int), ()) /\ vZ w3 w' B1 B2 (j + 1) d1 d2 (0 :: (sp.take j).map fun p => p.1) (bn :: (sp.take j).map fun p => p.2.2) /\ Owni spE 140 w' w5.heap.size Asp sp.length ksp (sp.map spP)) := by
   intro w' A1' A2' c1' c2' h1 h2
   refine ⟨i + 1, A1', A2', c1', c2', by omega, rfl, ?_, h2⟩
   rw [tk, List.map_append, List.map_append]
   exact h1
  have spk : ∀ {wa wb : World} {A : Option Addr} {n c0 : Nat} {xs : List Nat}, Owni spE 140 wa w5.heap.size Asp sp.length ksp (sp.map spP) -> Owni (zu .u64) 42 wa w3.heap.size A n c0 xs -> (∀ q, orow A ≠ some q -> q < wa.heap.size -> wb.heap[q]? = wa.heap[q]?) -> Owni spE 140 wb w5.heap.size Asp sp.length ksp (sp.map spP) := fun h1 h2 h3 => h1.cong (fun j hj => h3 j (fun e => h1.ne h2 (by decide) j hj e) (h1.yc j hj))
  have bk : ∀ {wa wb : World} {A : Option Addr} {n c0 : Nat} {xs : List Nat}, Blk wa r14 [.int .u64 (p.1 : Int), .pointer (some p.2.1)] 140 -> Owni (zu .u64) 42 wa w3.heap.size A n c0 xs -> (∀ q, orow A ≠ some q -> q < wa.heap.size -> wb.heap[q]? = wa.heap[q]?) -> Blk wb r14 [.int .u64 (p.1 : Int), .pointer (some p.2.1)] 140 := fun h1 h2 h3 => (h3 r14 (neR h2 h1) h1.lt).trans h1
  refine ⟨?_, ?_⟩
  ·refine zr fun r19 wa hb19 hea hra hza => ?_
   have hba := hb14.ext hea
   have hta := ht9.ext' hea
   have hsa := hs9.ext hea
   refine jo (hp17 hta.ext) (yK hba rfl) ?_
   refine ⟨?_, ?_⟩
   ·refine zdA hta hb19 (by omega) ?_
    intro B1 d1 wb hkb hvb hne heb hsb hkeep
    have hbb := bk hba hta.ks hkeep
    have hspb := spk hsa hta.ks hkeep
    refine jo (hp17 heb) (yK hbb rfl) ?_
    refine zr fun r21 wc hb21 hec hrc hzc => ?_
    refine xC (z6 (hbb.ext hec) rfl) ?_
    refine zdB (hkb.ext hec) (hvb.ext hec) hne (heb.trans hec) hb21 (by omega) ?_
    intro B2 d2 wd htd hsd hkeepd
    exact ⟨fin htd (spk (hspb.ext hec) (hvb.ext hec) hkeepd), by omega⟩
   ·refine zr fun r23 wb hb23 heb hrb hzb => ?_
    have hbb := hba.ext heb
    have htb := hta.ext' heb
    have hspb := hsa.ext heb
    refine xC (z6 hbb rfl) ?_
    refine zdA htb (hb19.ext heb) (by omega) ?_
    intro B1 d1 wc hkc hvc hne hec hsc hkeep
    have hbc := bk hbb htb.ks hkeep
    have hspc := spk hspb htb.ks hkeep
    refine jo (hp17 hec) (yK hbc rfl) ?_
    have hb23' : Blk wc r23 _ _ := (hkeep r23 (fun e => by have := hta.ks.yc _ e; have := hb23.lt; omega) hb23.lt).trans hb23
    refine zdB hkc hvc hne hec hb23' (by omega) ?_
    intro B2 d2 wd htd hsd hkeepd
    exact ⟨fin htd (spk hspc hvc hkeepd), by omega⟩
  ·refine zr fun r26 wa hb26 hea hra hza => ?_
   have hba := hb14.ext hea
   have hta := ht9.ext' hea
   have hsa := hs9.ext hea
   refine xC (z6 hba rfl) ?_
   refine zr fun r27 wb hb27 heb hrb hzb => ?_
   have hbb := hba.ext heb
   have htb := hta.ext' heb
   have hspb := hsa.ext heb
   refine jo (hp17 htb.ext) (yK hbb rfl) ?_
   refine zdA htb hb27 (by omega) ?_
   intro B1 d1 wc hkc hvc hne hec hsc hkeep
   have hbc := bk hbb htb.ks hkeep
   have hspc := spk hspb htb.ks hkeep
   refine jo (hp17 hec) (yK hbc rfl) ?_
   have hb26b := hb26.ext heb
   have hb26' : Blk wc r26 _ _ := (hkeep r26 (fun e => by have := ht9.ks.yc _ e; omega) hb26b.lt).trans hb26b
   refine zdB hkc hvc hne hec hb26' (by omega) ?_
   intro B2 d2 wd htd hsd hkeepd
   exact ⟨fin htd (spk hspc hvc hkeepd), by omega⟩
 ·obtain rfl : i = sp.length := by omega
  refine zc (decide_eq_false (by omega)) ?_
  rw [List.take_of_length_le (by omega)] at ht7
  have hks : sp.map (fun p => p.1) = qF c := by unfold qF; rw [<- hkv, List.map_map]; rfl
  have hvs : sp.map (fun p => p.2.2) = xt c := by unfold xt; rw [<- hkv, List.map_map]; rfl
  rw [hks, hvs] at ht7
  have hkl : (qF c).length = sp.length := by rw [<- hks, List.length_map]
  have hvl : (xt c).length = sp.length := by rw [<- hvs, List.length_map]
  obtain ⟨hpw, hk200⟩ := zoE ht16 hs16
  have h37 := h3.ext ht7.ext
  have h3lt := h3.lt
  have hs37 := ht7.ext.size
  have hrow : ∀ {A : Option Addr} {n c0 : Nat} {xs : List Nat}, Owni (zu .u64) 42 w7 w3.heap.size A n c0 xs -> ∀ a, A = some a -> ¬ F3 a.block /\ a.block < w7.heap.size := fun ho a ha => by
   have e1 := ho.row a.block (by rw [ha]; rfl)
   have e2 := ho.yc a.block (by rw [ha]; rfl)
   exact ⟨fun hf => by have := h3lt _ hf; omega, e2⟩
  have hr0 : S2.r0 = S.r0 := hMk.r0
  have hsup := hMk.sup
  have hfr := hMk.free
  have hpn := hMk.pen
  rw [hmk] at hll
  have hnp : ls.length <= 65537 := by
   have := (zci (len := (x6 c).length) q1 hmost).2
   omega
  refine zb (zhR (R := R) (ks := 0 :: qF c) (vs := bn :: xt c) (x := (A1, sp.length + 1, c1)) (y := (A2, sp.length + 1, c2)) h37 hG2 (by omega) ht7.ks.sl ht7.ks.le.1 ht7.vs.sl (hrow ht7.ks) (hrow ht7.vs) (by simp [hkl, hvl]) (fun k hk => by have := hk200 k hk; omega) (by simp) (by rw [hr0, List.length_cons]; omega) (zg1 hpw) (by rw [hsup]; omega) (fun v hv => ?_)) ?_
  ·rcases List.mem_cons.1 hv with rfl | hv
   ·rw [hone]; omega
   ·have hu := hg.good.well.root v (List.mem_append_left _ hv)
    rw [(hMk.used hg.good hu).2.1]
    exact h6 v hv
  rintro _ w8 ⟨S', n, ls2, rfl, hB, hst⟩
  refine ⟨((n : Int), 0, ()), rfl, .inr ⟨h0, S', n, ls ++ ls2, rfl, ⟨hMk.trans hB.made, hB.great, ⟨hIs, bn, bks, hB.tree, ?_⟩, ?_⟩, yx.trans (Only.trans hO03 (Only.zG (F := F) ht7.ext) (fun j hj => .inl hj)) (fun k hk => ?_) hst⟩⟩
  ·have hub := hG2.good.well.root bn List.mem_cons_self
   refine hBl.keep (hB.made.r0) (fun k hk => ?_)
   rcases hk with rfl | hk
   ·exact (hB.made.used hG2.good hub).1
   ·have hkid : yp S2.page bn = bks := by unfold yp; rw [hBl.idx]
    exact (hB.made.used hG2.good ((hG2.good.well.good bn hub).2 k (by rw [hkid]; exact hk))).1
  ·have := hB.few
   rw [List.length_append]; omega
  ·rcases hF30 k hk with e | e
   ·exact .inl e
   ·exact .inr e
end V
/- Contracts of the package catalog: Get; the entries of a tree, gathered. -/
namespace V
open Go Go.Proofs Go.RowKit Crc
variable {w w' : World} {b db : Nat} {S : Spa} {F : Nat -> Prop}
structure Gath (w0 w : World) (r1 r5 r6 : Nat) (i : Nat) (ks vs : List Nat) (A1 A2 : Option Addr) (c1 c2 : Nat) : Prop where
 ext : Ext w0 w
 b1 : Blk w r1 (zY (none, 0, 0) (none, 0, 0)) 25
 b5 : Blk w r5 [.slice A1 i c1] 129
 b6 : Blk w r6 [.slice A2 i c2] 54
 ks : Owni (zu .u64) 42 w (r6 + 1) A1 i c1 ks
 vs : Owni (zu .u32) 41 w (r6 + 1) A2 i c2 vs
theorem Gath.only {G : Nat -> Prop} {w0 : World} {r1 r5 r6 i : Nat} {ks vs : List Nat} {A1 A2 : Option Addr} {c1 c2 : Nat} (h : Gath w0 w r1 r5 r6 i ks vs A1 A2 c1 c2) (o : Only G w w') (h0 : w0.heap.size <= r1) (hr : r1 < r5 /\ r5 < r6) (hG : ∀ k, G k -> r6 < k /\ orow A1 ≠ some k /\ orow A2 ≠ some k) : Gath w0 w' r1 r5 r6 i ks vs A1 A2 c1 c2 :=
 ⟨Only.ext h.ext o (fun j hj => by have := (hG j hj).1; omega), h.b1.only o (fun e => by have := (hG _ e).1; omega), h.b5.only o (fun e => by have := (hG _ e).1; omega), h.b6.only o (fun e => by have := (hG _ e).1; omega),
  h.ks.only o (fun j hj e => (hG j e).2.1 hj), h.vs.only o (fun j hj e => (hG j e).2.2 hj)⟩
theorem Gath.ext' {w0 : World} {r1 r5 r6 i : Nat} {ks vs : List Nat} {A1 A2 : Option Addr} {c1 c2 : Nat} (h : Gath w0 w r1 r5 r6 i ks vs A1 A2 c1 c2) (he : Ext w w') : Gath w0 w' r1 r5 r6 i ks vs A1 A2 c1 c2 := ⟨h.ext.trans he, h.b1.ext he, h.b5.ext he, h.b6.ext he, h.ks.ext he, h.vs.ext he⟩
theorem zdC {w0 : World} {r1 r5 r6 i k rk : Nat} {ks vs : List Nat} {A1 A2 : Option Addr} {c1 c2 : Nat} {t1 : TypeId} {K1 : SLC -> WP} (h : Gath w0 w r1 r5 r6 i ks vs A1 A2 c1 c2) (hr : w0.heap.size <= r1 /\ r1 < r5 /\ r5 < r6) (hk : Blk w rk [.int .u64 (k : Int)] t1) (hn : i <= 1000000)
  (hK : ∀ A c w1, Owni (zu .u64) 42 w1 (r6 + 1) A (i + 1) c (ks ++ [k]) -> Blk w1 r1 (zY (none, 0, 0) (none, 0, 0)) 25 -> Blk w1 r5 [.slice A1 i c1] 129 -> Blk w1 r6 [.slice A2 i c2] 54 -> Owni (zu .u32) 41 w1 (r6 + 1) A2 i c2 vs -> Only (fun q => orow A1 = some q) w w1 -> (∀ q, orow A = some q -> orow A1 = some q \/ w.heap.size <= q) -> K1 (A, i + 1, c) w1) :
  zw Tryz.prog (Builtin.append_ #[129, 129] 129 #[.slice A1 i c1, .slice (some (aD rk)) 1 1]) .slc K1 w := by
 have hx : Sli (zu .u64) w (some ⟨rk, 0, none⟩) 1 [k] := Sli.xJ (E := zu .u64) (xs := [k]) hk rfl (by omega)
 refine xi kA h.ks (by have := h.b6.lt; omega) hx (by omega) (by omega) ?_
 intro A c w1 ho hg _
 have hrow := h.ks.row
 exact hK A c w1 ho (h.b1.grown hg.grown (fun e => by have := hrow _ e.symm; omega)) (h.b5.grown hg.grown (fun e => by have := hrow _ e.symm; omega)) (h.b6.grown hg.grown (fun e => by have := hrow _ e.symm; omega)) (h.vs.grown hg.grown (fun j hj => h.ks.ne h.vs (by decide) j hj)) (Only.z7 hg.grown (fun q hq => .inl hq)) hg.next
theorem zjA {w0 : World} {r1 r5 r6 i k v : Nat} {ks vs : List Nat} {A1 A2 : Option Addr} {c1 c2 : Nat} {N : WP} (h : Gath w0 w r1 r5 r6 i ks vs A1 A2 c1 c2) (hr : w0.heap.size <= r1 /\ r1 < r5 /\ r5 < r6) (hn : i <= 1000000) (hv32 : v < 4294967296)
  (hN : ∀ A1' A2' c1' c2' w', Gath w0 w' r1 r5 r6 (i + 1) (ks ++ [k]) (vs ++ [v]) A1' A2' c1' c2' -> Only (fun q => q = r5 \/ q = r6 \/ orow A1 = some q \/ orow A2 = some q) w w' -> (∀ q, orow A1' = some q -> orow A1 = some q \/ w.heap.size <= q) -> (∀ q, orow A2' = some q -> orow A2 = some q \/ w.heap.size <= q) -> N w') :
  (zA <| ldW .slc (aD r5) fun (u14 : SLC) => ldW .slc (aD r6) fun (u15 : SLC) =>
   kH (zi (.cells #[.int .u64 (k : Int)] 42) fun r16 => zq [[((aD r6), .slice u15.1 u15.2.1 u15.2.2)], [((aD r5), .slice u14.1 u14.2.1 u14.2.2)]] <|
    kH (zw Tryz.prog (Builtin.append_ #[129, 129] 129 #[.slice u14.1 u14.2.1 u14.2.2, .slice (some (aD r16)) 1 1]) .slc fun (u17 : SLC) =>
     zq [[((aD r6), .slice u15.1 u15.2.1 u15.2.2)]] <| zi (.cells #[.int .u32 (IntKind.wrap .u32 (v : Int))] 41) fun r18 =>
     zq [[((aD r6), .slice u15.1 u15.2.1 u15.2.2)], [((aD r5), .slice u14.1 u14.2.1 u14.2.2)]] <|
     zw Tryz.prog (Builtin.append_ #[54, 54] 54 #[.slice u15.1 u15.2.1 u15.2.2, .slice (some (aD r18)) 1 1]) .slc fun (u19 : SLC) =>
     stW (aD r5) (.slice u17.1 u17.2.1 u17.2.2) <| stW (aD r6) (.slice u19.1 u19.2.1 u19.2.2) <| N)
    (zi (.cells #[.int .u32 (IntKind.wrap .u32 (v : Int))] 41) fun r20 =>
     zq [[((aD r6), .slice u15.1 u15.2.1 u15.2.2)], [((aD r5), .slice u14.1 u14.2.1 u14.2.2)]] <|
     zw Tryz.prog (Builtin.append_ #[129, 129] 129 #[.slice u14.1 u14.2.1 u14.2.2, .slice (some (aD r16)) 1 1]) .slc fun (u21 : SLC) =>
     zq [[((aD r6), .slice u15.1 u15.2.1 u15.2.2)]] <|
     zw Tryz.prog (Builtin.append_ #[54, 54] 54 #[.slice u15.1 u15.2.1 u15.2.2, .slice (some (aD r20)) 1 1]) .slc fun (u22 : SLC) =>
     stW (aD r5) (.slice u21.1 u21.2.1 u21.2.2) <| stW (aD r6) (.slice u22.1 u22.2.1 u22.2.2) <| N))
   (zi (.cells #[.int .u32 (IntKind.wrap .u32 (v : Int))] 41) fun r23 =>
    zq [[((aD r6), .slice u15.1 u15.2.1 u15.2.2)], [((aD r5), .slice u14.1 u14.2.1 u14.2.2)]] <|
    zi (.cells #[.int .u64 (k : Int)] 42) fun r24 => zq [[((aD r6), .slice u15.1 u15.2.1 u15.2.2)], [((aD r5), .slice u14.1 u14.2.1 u14.2.2)]] <|
    zw Tryz.prog (Builtin.append_ #[129, 129] 129 #[.slice u14.1 u14.2.1 u14.2.2, .slice (some (aD r24)) 1 1]) .slc fun (u25 : SLC) =>
    zq [[((aD r6), .slice u15.1 u15.2.1 u15.2.2)]] <|
    zw Tryz.prog (Builtin.append_ #[54, 54] 54 #[.slice u15.1 u15.2.1 u15.2.2, .slice (some (aD r23)) 1 1]) .slc fun (u26 : SLC) =>
    stW (aD r5) (.slice u25.1 u25.2.1 u25.2.2) <| stW (aD r6) (.slice u26.1 u26.2.1 u26.2.2) <| N)) w := by
 refine zK fun wd hed hzd hhd => ?_
 have hd := h.ext' hed
 refine zE ((A1, i, c1) : SLC) hd.b5 (by rfl) (zE ((A2, i, c2) : SLC) hd.b6 (by rfl) ?_)
 have hv : IntKind.wrap .u32 (v : Int) = (v : Int) := by rw [wrap_u32]; omega
 rw [hv]
 have hs0 := hed.size
 -- the values' append, and the boxes
 have fin : ∀ {A : Option Addr} {c rv : Nat} {wa wb : World} {t : TypeId}, Ext wd wa -> Owni (zu .u64) 42 wb (r6 + 1) A (i + 1) c (ks ++ [k]) -> Blk wb r1 (zY (none, 0, 0) (none, 0, 0)) 25 -> Blk wb r5 [.slice A1 i c1] 129 -> Blk wb r6 [.slice A2 i c2] 54 -> Owni (zu .u32) 41 wb (r6 + 1) A2 i c2 vs -> Only (fun q => orow A1 = some q) wa wb -> (∀ q, orow A = some q -> orow A1 = some q \/ wa.heap.size <= q) -> Blk wb rv [.int .u32 (v : Int)] t ->
   zw Tryz.prog (Builtin.append_ #[54, 54] 54 #[.slice A2 i c2, .slice (some (aD rv)) 1 1]) .slc (fun (u19 : SLC) => stW (aD r5) (.slice A (i + 1) c) <| stW (aD r6) (.slice u19.1 u19.2.1 u19.2.2) <| N) wb := by
  intro A c rv wa wb t hea ho g1 g5 g6 gv oab hAn hb
  have hx : Sli (zu .u32) wb (some ⟨rv, 0, none⟩) 1 [v] := Sli.xJ (E := zu .u32) (xs := [v]) hb rfl (by omega)
  refine xi jD gv (by have := g6.lt; omega) hx (by omega) (by omega) ?_
  intro A' c' w1 ho' hg _
  have hrow := gv.row
  have e1 := g1.grown hg.grown (fun e => by have := hrow _ e.symm; omega)
  have e5 := g5.grown hg.grown (fun e => by have := hrow _ e.symm; omega)
  have e6 := g6.grown hg.grown (fun e => by have := hrow _ e.symm; omega)
  have ek := ho.grown hg.grown (fun j hj => gv.ne ho (by decide) j hj)
  have ob1 : Only (fun q => orow A2 = some q) wb w1 := Only.z7 hg.grown (fun q hq => .inl hq)
  refine stE (o := 0) e5 rfl (by show 0 < 1; omega) ?_
  intro w2 f5 o2
  refine stE (o := 0) (e6.only o2 (by omega)) rfl (by show 0 < 1; omega) ?_
  intro w3 f6 o3
  have hsz1 := oab.2.2.2.1
  have hsz2 := hg.grown.size
  have hsz0 := hea.size
  have rA := ho.row
  have rA' := ho'.row
  have oall : Only (fun q => q = r5 \/ q = r6 \/ orow A1 = some q \/ orow A2 = some q) w w3 := by
   refine Only.trans (Only.trans (Only.trans (Only.trans (Only.zG (hed.trans hea)) (oab.mono (fun q hq => .inr (.inr (.inl hq)))) (fun q hq => .inl hq)) (ob1.mono (fun q hq => .inr (.inr (.inr hq)))) (fun q hq => .inl hq)) (o2.mono (fun q hq => .inl hq)) (fun q hq => .inl hq)) (o3.mono (fun q hq => .inr (.inl hq))) (fun q hq => .inl hq)
  have k1 := h.ks.row
  have k2 := h.vs.row
  refine hN A A' c c' w3 ⟨Only.ext h.ext oall (fun q hq => ?_), (e1.only o2 (by omega)).only o3 (by omega), f5.only o3 (by omega), f6, (ek.only o2 (fun j hj e => by have := rA j hj; have : j = r5 := e; omega)).only o3 (fun j hj e => by have := rA j hj; have : j = r6 := e; omega), (ho'.only o2 (fun j hj e => by have := rA' j hj; have : j = r5 := e; omega)).only o3 (fun j hj e => by have := rA' j hj; have : j = r6 := e; omega)⟩ oall (fun q hq => ?_) (fun q hq => ?_)
  ·rcases hq with e | e | e | e
   ·omega
   ·omega
   ·have := k1 q e; omega
   ·have := k2 q e; omega
  ·rcases hAn q hq with e | e
   ·exact .inl e
   ·exact .inr (by omega)
  ·rcases hg.next q hq with e | e
   ·exact .inl e
   ·exact .inr (by omega)
 refine ⟨?_, ?_⟩
 ·refine zr fun r16 wa hb16 hea hra hza => ?_
  have ha := hd.ext' hea
  refine jo (z6 ha.b6 rfl) (z6 ha.b5 rfl) ?_
  refine ⟨?_, ?_⟩
  ·refine zdC ha hr hb16 hn ?_
   intro A c wb ho g1 g5 g6 gv oab hAn
   refine xC (z6 g6 rfl) ?_
   refine zr fun r18 wc hb18 hec hrc hzc => ?_
   refine jo (z6 (g6.ext hec) rfl) (z6 (g5.ext hec) rfl) ?_
   exact fin hea (ho.ext hec) (g1.ext hec) (g5.ext hec) (g6.ext hec) (gv.ext hec) (Only.trans oab (Only.zG (F := fun q => orow A1 = some q) hec) (fun q hq => .inl hq)) hAn hb18
  ·refine zr fun r20 wb hb20 heb hrb hzb => ?_
   have hb := ha.ext' heb
   refine jo (z6 hb.b6 rfl) (z6 hb.b5 rfl) ?_
   refine zdC hb hr (hb16.ext heb) hn ?_
   intro A c wc ho g1 g5 g6 gv oab hAn
   refine xC (z6 g6 rfl) ?_
   exact fin (hea.trans heb) ho g1 g5 g6 gv oab hAn (hb20.only oab (fun e => by have := ha.ks.yc _ e; omega))
 ·refine zr fun r23 wa hb23 hea hra hza => ?_
  have ha := hd.ext' hea
  refine jo (z6 ha.b6 rfl) (z6 ha.b5 rfl) ?_
  refine zr fun r24 wb hb24 heb hrb hzb => ?_
  have hb := ha.ext' heb
  refine jo (z6 hb.b6 rfl) (z6 hb.b5 rfl) ?_
  refine zdC hb hr hb24 hn ?_
  intro A c wc ho g1 g5 g6 gv oab hAn
  refine xC (z6 g6 rfl) ?_
  exact fin (hea.trans heb) ho g1 g5 g6 gv oab hAn ((hb23.ext heb).only oab (fun e => by have := hd.ks.yc _ e; omega))
end V
/- A field of a row of one's own is set. -/
namespace V
open Go Go.Proofs Go.RowKit Crc
variable {w w' : World} {b db : Nat} {S : Spa} {F : Nat -> Prop} {R : List Nat}
theorem Enc.zg2 {α : Type} (E : Enc α) {x x' : α} {v : Value} {j : Nat} (hj : j < E.k) (hx : E.f x' = (E.f x).set j v) : ∀ (xs : List α) (i : Nat), xs[i]? = some x -> (E.flat xs).set (i * E.k + j) v = E.flat (xs.set i x')
 | [], i, h => by simp at h
 | a :: r, 0, h => by
  have ha : a = x := by simpa using h
  subst ha
  show (E.f a ++ E.flat r).set (0 * E.k + j) v = E.f x' ++ E.flat r
  rw [Nat.zero_mul, Nat.zero_add, List.set_append_left _ _ (by rw [E.len]; exact hj), hx]
 | a :: r, i + 1, h => by
  have ih := Enc.zg2 E hj hx r i (by simpa using h)
  show (E.f a ++ E.flat r).set ((i + 1) * E.k + j) v = E.f a ++ E.flat (r.set i x')
  rw [List.set_append_right _ _ (by rw [E.len, Nat.add_mul, Nat.one_mul]; omega), E.len, show (i + 1) * E.k + j - E.k = i * E.k + j by rw [Nat.add_mul, Nat.one_mul]; omega, ih]
theorem Owni.stF {α : Type} {E : Enc α} {e : TypeId} {B0 : Nat} {A : Option Addr} {n c i j k : Nat} {xs : List α} {x x' : α} {v : Value} {K : WP} (h : Owni E e w B0 A n c xs) (hk : E.k = k) (hi : xs[i]? = some x) (hj : j < k) (hx : E.f x' = (E.f x).set j v)
  (hK : ∀ w', Owni E e w' B0 A n c (xs.set i x') -> Only (fun q => orow A = some q) w w' -> K w') : stW (((adr A).add (i * k)).add j) v K w := by
 subst hk
 have hl := h.len
 have hin : i < xs.length := (List.getElem?_eq_some_iff.1 hi).1
 obtain ⟨g, hA⟩ : ∃ g, A = some ⟨g, 0, none⟩ := by
  rcases h.2 with ⟨hv, h2⟩ | ⟨g, cap, cur, hv, _⟩
  ·have : n = 0 := h2
   omega
  ·injection hv with hv
   exact ⟨g, hv⟩
 subst hA
 have ha : ((adr (some ⟨g, 0, none⟩)).add (i * E.k)).add j = (⟨g, i * E.k + j, none⟩ : Addr) := by
  show ((aD g).add (i * E.k)).add j = _
  rw [zz, zz, Nat.zero_add]
 rw [ha]
 have hlt : i * E.k + j < (E.flat xs).length := by
  rw [Enc.yY]
  have : (i + 1) * E.k <= xs.length * E.k := Nat.mul_le_mul_right _ hin
  rw [Nat.add_mul, Nat.one_mul] at this
  omega
 have hst := World.ownsRow.stored (show w.ownsRow B0 e E.k (.slice (some ⟨g, 0, none⟩) n c) n (E.flat xs) from h) (i * E.k + j) v
 refine ⟨?_, World.ownsRow.frozenAt (show w.ownsRow B0 e E.k (.slice (some ⟨g, 0, none⟩) n c) n (E.flat xs) from h) _, hK _ ?_ (Only.z7 hst.2 (fun q hq => .inl (by injection hq with hq; rw [<- hq]; rfl)))⟩
 ·rw [World.ownsRow.cellAt (show w.ownsRow B0 e E.k (.slice (some ⟨g, 0, none⟩) n c) n (E.flat xs) from h) _ (by rw [<- hl, <- Enc.yY]; exact hlt)]
  exact ⟨_, List.getElem?_eq_getElem hlt⟩
 ·have := hst.1
  rw [Enc.zg2 E hj hx xs i hi] at this
  exact this
end V
/- Catalogs whose roots are put in one by one: plain. -/
namespace V
open Go Go.Proofs Go.RowKit Crc
def nzT (es : List Ent) (j : Nat) : Nat := (spT none es j).length
def nzS (ss : List Snp) (j : Nat) : Nat := (spS none ss j).length
theorem zbj (A : Option Addr) (es : List Ent) (j : Nat) : (spT A es j).length = nzT es j := by
 have := congrArg List.length (zgX A none es j)
 rwa [List.length_map, List.length_map] at this
theorem zel (A : Option Addr) (ss : List Snp) (j : Nat) : (spS A ss j).length = nzS ss j := by
 have := congrArg List.length (zgY A none ss j)
 rwa [List.length_map, List.length_map] at this
theorem zg3 (es : List Ent) (j : Nat) : nzT es (j + 1) = nzT es j + (if (es.getD j zS).2.2.1 = 0 then 0 else 1) := by
 unfold nzT
 rw [jG, List.length_append]
 split <;> rfl
theorem zg4 (ss : List Snp) (j : Nat) : nzS ss (j + 1) = nzS ss j + (if (ss.getD j yb).2 = 0 then 0 else 1) := by
 unfold nzS
 rw [jH, List.length_append]
 split <;> rfl
theorem zg5 (es : List Ent) (j : Nat) : ∀ d, nzT es j <= nzT es (j + d)
 | 0 => Nat.le_refl _
 | d + 1 => Nat.le_trans (zg5 es j d) (by rw [<- Nat.add_assoc, zg3]; omega)
theorem zg6 (ss : List Snp) (j : Nat) : ∀ d, nzS ss j <= nzS ss (j + d)
 | 0 => Nat.le_refl _
 | d + 1 => Nat.le_trans (zg6 ss j d) (by rw [<- Nat.add_assoc, zg4]; omega)
theorem zem {es : List Ent} {j k : Nat} (h : j < k) (hj : (es.getD j zS).2.2.1 ≠ 0) : nzT es j < nzT es k := by
 have h1 := zg5 es (j + 1) (k - (j + 1))
 rw [show j + 1 + (k - (j + 1)) = k by omega, zg3, if_neg hj] at h1
 omega
theorem zg7 {ss : List Snp} {j k : Nat} (h : j < k) (hj : (ss.getD j yb).2 ≠ 0) : nzS ss j < nzS ss k := by
 have h1 := zg6 ss (j + 1) (k - (j + 1))
 rw [show j + 1 + (k - (j + 1)) = k by omega, zg4, if_neg hj] at h1
 omega
theorem zkB {A : Option Addr} {es : List Ent} : ∀ {n i : Nat} {p : Spt}, (spT A es n)[i]? = some p -> ∃ j, j < n /\ nzT es j = i /\ (es.getD j zS).2.2.1 ≠ 0 /\ p = (1 + j, kW A j, (es.getD j zS).2.2.1)
 | 0, i, p, h => by simp [spT] at h
 | n + 1, i, p, h => by
  rw [jG] at h
  by_cases hi : i < (spT A es n).length
  ·rw [List.getElem?_append_left hi] at h
   obtain ⟨j, h1, h2⟩ := zkB h
   exact ⟨j, by omega, h2⟩
  ·rw [List.getElem?_append_right (by omega)] at h
   split at h
   ·simp at h
   ·rename_i hn
    have h0 : i - (spT A es n).length = 0 := by
     have := (List.getElem?_eq_some_iff.1 h).1
     simp at this
     omega
    rw [h0] at h
    refine ⟨n, by omega, by rw [<- zbj A]; omega, hn, ?_⟩
    simpa using h.symm
theorem zkC {A : Option Addr} {ss : List Snp} : ∀ {n i : Nat} {p : Spt}, (spS A ss n)[i]? = some p -> ∃ j, j < n /\ nzS ss j = i /\ (ss.getD j yb).2 ≠ 0 /\ p = (100 + j, kX A j, (ss.getD j yb).2)
 | 0, i, p, h => by simp [spS] at h
 | n + 1, i, p, h => by
  rw [jH] at h
  by_cases hi : i < (spS A ss n).length
  ·rw [List.getElem?_append_left hi] at h
   obtain ⟨j, h1, h2⟩ := zkC h
   exact ⟨j, by omega, h2⟩
  ·rw [List.getElem?_append_right (by omega)] at h
   split at h
   ·simp at h
   ·rename_i hn
    have h0 : i - (spS A ss n).length = 0 := by
     have := (List.getElem?_eq_some_iff.1 h).1
     simp at this
     omega
    rw [h0] at h
    refine ⟨n, by omega, by rw [<- zel A]; omega, hn, ?_⟩
    simpa using h.symm
def vO (b : Bool) (r : Nat) : Nat := if b then r else min r 1
def zbk (es es' : List Ent) (i : Nat) : Prop := es'.length = es.length /\ ∀ j, j < es.length -> es'.getD j zS = ((es.getD j zS).1, (es.getD j zS).2.1, vO (decide (nzT es j < i)) (es.getD j zS).2.2.1, (es.getD j zS).2.2.2.1, (es.getD j zS).2.2.2.2)
def zbl (n0 : Nat) (ss ss' : List Snp) (i : Nat) : Prop := ss'.length = ss.length /\ ∀ j, j < ss.length -> ss'.getD j yb = ((ss.getD j yb).1, vO (decide (n0 + nzS ss j < i)) (ss.getD j yb).2)
theorem getD_map' {α β : Type} (f : α -> β) (l : List α) (j : Nat) (d : α) (d' : β) (h : j < l.length) : (l.map f).getD j d' = f (l.getD j d) := by
 rw [List.getD_eq_getElem?_getD, List.getElem?_map, List.getElem?_eq_getElem h, List.getD_eq_getElem?_getD, List.getElem?_eq_getElem h]; rfl
theorem zpc (es : List Ent) : zbk es (es.map jP) 0 := by
 refine ⟨by simp, fun j hj => ?_⟩
 rw [getD_map' jP es j zS zS hj, decide_eq_false (by omega)]
 rfl
theorem zpd (n0 : Nat) (ss : List Snp) : zbl n0 ss (ss.map ki) 0 := by
 refine ⟨by simp, fun j hj => ?_⟩
 rw [getD_map' ki ss j yb yb hj, decide_eq_false (by omega)]
 rfl
theorem zg8 {α : Type} {l l' : List α} (d : α) (h : l.length = l'.length) (hh : ∀ j, j < l'.length -> l.getD j d = l'.getD j d) : l = l' := by
 refine List.ext_getElem h (fun j h1 h2 => ?_)
 have := hh j h2
 rw [List.getD_eq_getElem?_getD, List.getElem?_eq_getElem h1, List.getD_eq_getElem?_getD, List.getElem?_eq_getElem h2] at this
 exact this
theorem zg9 {es es' : List Ent} {i : Nat} (h : zbk es es' i) (hi : nzT es es.length <= i) : es' = es := by
 refine zg8 zS h.1 (fun j hj => ?_)
 rw [h.2 j hj]
 by_cases h0 : (es.getD j zS).2.2.1 = 0
 ·rw [h0]
  have : vO (decide (nzT es j < i)) 0 = 0 := by unfold vO; split <;> simp
  rw [this]
  refine Prod.ext rfl (Prod.ext rfl (Prod.ext h0.symm rfl))
 ·have := zem (k := es.length) hj h0
  rw [decide_eq_true (show nzT es j < i by omega)]
  rfl
theorem zmH {n0 : Nat} {ss ss' : List Snp} {i : Nat} (h : zbl n0 ss ss' i) (hi : n0 + nzS ss ss.length <= i) : ss' = ss := by
 refine zg8 yb h.1 (fun j hj => ?_)
 rw [h.2 j hj]
 by_cases h0 : (ss.getD j yb).2 = 0
 ·rw [h0]
  have : vO (decide (n0 + nzS ss j < i)) 0 = 0 := by unfold vO; split <;> simp
  rw [this]
  exact Prod.ext rfl h0.symm
 ·have := zg7 (k := ss.length) hj h0
  rw [decide_eq_true (show n0 + nzS ss j < i by omega)]
  rfl
theorem kG {α : Type} {l : List α} {j k : Nat} {x d : α} (hj : j < l.length) : (l.set j x).getD k d = if j = k then x else l.getD k d := by
 rw [List.getD_eq_getElem?_getD, List.getElem?_set]
 by_cases h : j = k
 ·subst h
  rw [if_pos rfl, if_pos hj, if_pos rfl]; rfl
 ·rw [if_neg h, if_neg h, <- List.getD_eq_getElem?_getD]
theorem zbk.step {es es' : List Ent} {i j : Nat} (h : zbk es es' i) (hj : j < es.length) (hi : nzT es j = i) (hn : (es.getD j zS).2.2.1 ≠ 0) : zbk es (es'.set j (es.getD j zS)) (i + 1) := by
 refine ⟨by rw [List.length_set]; exact h.1, fun k hk => ?_⟩
 rw [kG (by rw [h.1]; exact hj)]
 by_cases e : j = k
 ·subst e
  rw [if_pos rfl, decide_eq_true (by omega)]
  rfl
 ·rw [if_neg e, h.2 k hk]
  by_cases h0 : (es.getD k zS).2.2.1 = 0
  ·rw [h0]
   have : ∀ b, vO b 0 = 0 := fun b => by unfold vO; split <;> simp
   rw [this, this]
  ·have hne : nzT es k ≠ i := fun e2 => by
    rcases Nat.lt_or_gt_of_ne e with hlt | hlt
    ·have := zem hlt hn; omega
    ·have := zem hlt h0; omega
   rw [show decide (nzT es k < i + 1) = decide (nzT es k < i) from by
    by_cases h1 : nzT es k < i
    ·rw [decide_eq_true h1, decide_eq_true (by omega)]
    ·rw [decide_eq_false h1, decide_eq_false (by omega)]]
theorem zbl.step {n0 : Nat} {ss ss' : List Snp} {i j : Nat} (h : zbl n0 ss ss' i) (hj : j < ss.length) (hi : n0 + nzS ss j = i) (hn : (ss.getD j yb).2 ≠ 0) : zbl n0 ss (ss'.set j (ss.getD j yb)) (i + 1) := by
 refine ⟨by rw [List.length_set]; exact h.1, fun k hk => ?_⟩
 rw [kG (by rw [h.1]; exact hj)]
 by_cases e : j = k
 ·subst e
  rw [if_pos rfl, decide_eq_true (by omega)]
  rfl
 ·rw [if_neg e, h.2 k hk]
  by_cases h0 : (ss.getD k yb).2 = 0
  ·rw [h0]
   have : ∀ b, vO b 0 = 0 := fun b => by unfold vO; split <;> simp
   rw [this, this]
  ·have hne : n0 + nzS ss k ≠ i := fun e2 => by
    rcases Nat.lt_or_gt_of_ne e with hlt | hlt
    ·have := zg7 hlt hn; omega
    ·have := zg7 hlt h0; omega
   rw [show decide (n0 + nzS ss k < i + 1) = decide (n0 + nzS ss k < i) from by
    by_cases h1 : n0 + nzS ss k < i
    ·rw [decide_eq_true h1, decide_eq_true (by omega)]
    ·rw [decide_eq_false h1, decide_eq_false (by omega)]]
theorem zbk.more {es es' : List Ent} {i : Nat} (h : zbk es es' i) (hi : nzT es es.length <= i) : zbk es es' (i + 1) := by
 have e := zg9 h hi
 refine ⟨h.1, fun j hj => ?_⟩
 rw [e]
 by_cases h0 : (es.getD j zS).2.2.1 = 0
 ·rw [h0]
  have : vO (decide (nzT es j < i + 1)) 0 = 0 := by unfold vO; split <;> simp
  rw [this]
  exact Prod.ext rfl (Prod.ext rfl (Prod.ext h0 rfl))
 ·have := zem (k := es.length) hj h0
  rw [decide_eq_true (show nzT es j < i + 1 by omega)]
  rfl
theorem zbl.more {n0 : Nat} {ss ss' : List Snp} {i : Nat} (h : zbl n0 ss ss' i) (hi : i < n0) : zbl n0 ss ss' (i + 1) := by
 refine ⟨h.1, fun j hj => ?_⟩
 rw [h.2 j hj, decide_eq_false (by omega), decide_eq_false (by omega)]
end V
/- Contracts of the package catalog: Get; a root is put in. -/
namespace V
open Go Go.Proofs Go.RowKit Crc
variable {w w' : World} {b db : Nat} {S : Spa} {F : Nat -> Prop} {R : List Nat}
theorem zha (A : Option Addr) (es : List Ent) : ∀ i, i <= es.length -> (spT A (es.map jP) i).map spP = (spT A es i).map spP
 | 0, _ => rfl
 | i + 1, h => by
  rw [jG, jG, List.map_append, List.map_append, zha A es i (by omega), getD_map' jP es i zS zS (by omega)]
  congr 1
  by_cases h0 : (es.getD i zS).2.2.1 = 0
  ·rw [if_pos (show (jP (es.getD i zS)).2.2.1 = 0 by show min _ 1 = 0; omega), if_pos h0]
  ·rw [if_neg (show ¬ (jP (es.getD i zS)).2.2.1 = 0 by show ¬ min _ 1 = 0; omega), if_neg h0]; rfl
theorem zhb (A : Option Addr) (ss : List Snp) : ∀ i, i <= ss.length -> (spS A (ss.map ki) i).map spP = (spS A ss i).map spP
 | 0, _ => rfl
 | i + 1, h => by
  rw [jH, jH, List.map_append, List.map_append, zhb A ss i (by omega), getD_map' ki ss i yb yb (by omega)]
  congr 1
  by_cases h0 : (ss.getD i yb).2 = 0
  ·rw [if_pos (show (ki (ss.getD i yb)).2 = 0 by show min _ 1 = 0; omega), if_pos h0]
  ·rw [if_neg (show ¬ (ki (ss.getD i yb)).2 = 0 by show ¬ min _ 1 = 0; omega), if_neg h0]; rfl
theorem zjB (x y : SLC) (c : Cat) : (yA x y (ones c)).map spP = (yA x y c).map spP := by
 unfold yA ones
 dsimp only
 rw [List.map_append, List.map_append, List.length_map, List.length_map, zha _ _ _ (Nat.le_refl _), zhb _ _ _ (Nat.le_refl _)]
theorem zmI {x y : SLC} {c : Cat} {i : Nat} {p : Spt} (h : (yA x y c)[i]? = some p) :
  (∃ j, j < c.1.length /\ nzT c.1 j = i /\ (c.1.getD j zS).2.2.1 ≠ 0 /\ p = (1 + j, kW x.1 j, (c.1.getD j zS).2.2.1) /\ i < nzT c.1 c.1.length) \/
  (∃ j, j < c.2.length /\ nzT c.1 c.1.length + nzS c.2 j = i /\ (c.2.getD j yb).2 ≠ 0 /\ p = (100 + j, kX y.1 j, (c.2.getD j yb).2) /\ nzT c.1 c.1.length <= i) := by
 unfold yA at h
 have hl := zbj x.1 c.1 c.1.length
 by_cases hi : i < (spT x.1 c.1 c.1.length).length
 ·rw [List.getElem?_append_left hi] at h
  obtain ⟨j, h1, h2, h3, h4⟩ := zkB h
  exact .inl ⟨j, h1, h2, h3, h4, by omega⟩
 ·rw [List.getElem?_append_right (by omega)] at h
  obtain ⟨j, h1, h2, h3, h4⟩ := zkC h
  exact .inr ⟨j, h1, by omega, h3, h4, by omega⟩
def uW (w : World) (B0 : Nat) (x y : SLC) (c : Cat) (i : Nat) : Prop := (∃ raws es, yS w B0 x raws es /\ zbk c.1 es i) /\ ∃ ss, Owni xv 46 w B0 y.1 y.2.1 y.2.2 ss /\ zbl (nzT c.1 c.1.length) c.2 ss i
theorem zoG {B0 : Nat} {x y : SLC} {c : Cat} (h : yD w B0 x y (ones c)) : uW w B0 x y c 0 := by
 obtain ⟨⟨raws, h1⟩, h2⟩ := h
 exact ⟨⟨raws, _, h1, zpc c.1⟩, _, h2, zpd _ c.2⟩
theorem zkD {B0 : Nat} {x y : SLC} {c : Cat} {i : Nat} (h : uW w B0 x y c i) (hi : (yA x y c).length <= i) : yD w B0 x y c := by
 obtain ⟨⟨raws, es, h1, h2⟩, ss, h3, h4⟩ := h
 have hl : (yA x y c).length = nzT c.1 c.1.length + nzS c.2 c.2.length := by
  unfold yA
  rw [List.length_append, zbj, zel]
 rw [zg9 h2 (by omega)] at h1
 rw [zmH h4 (by omega)] at h3
 exact ⟨⟨raws, h1⟩, h3⟩
theorem uW.ext {B0 : Nat} {x y : SLC} {c : Cat} {i : Nat} (h : uW w B0 x y c i) (he : Ext w w') : uW w' B0 x y c i := by
 obtain ⟨⟨raws, es, h1, h2⟩, ss, h3, h4⟩ := h
 exact ⟨⟨raws, es, h1.ext he, h2⟩, ss, h3.ext he, h4⟩
theorem zpe {B0 : Nat} {x y : SLC} {c : Cat} {i : Nat} {p : Spt} {K : WP} (h : uW w B0 x y c i) (hp : (yA x y c)[i]? = some p)
  (hK : ∀ w', uW w' B0 x y c (i + 1) -> Only (fun q => orow x.1 = some q \/ orow y.1 = some q) w w' -> K w') : stW p.2.1 (.int .u32 (p.2.2 : Int)) K w := by
 obtain ⟨⟨raws, es, h1, h2⟩, ss, h3, h4⟩ := h
 have hl := h1.len
 rcases zmI hp with ⟨j, j1, j2, j3, rfl, j5⟩ | ⟨j, j1, j2, j3, rfl, j5⟩
 ·have hj : j < raws.length := by rw [hl, h2.1]; exact j1
  have g : raws[j]? = some (raws.getD j yi) := by rw [List.getD_eq_getElem?_getD, List.getElem?_eq_getElem hj]; rfl
  have hE := h1.at_ j (by rw [h2.1]; exact j1)
  have hm := h2.2 j j1
  refine Owni.stF (x' := ((raws.getD j yi).1, (raws.getD j yi).2.1, (c.1.getD j zS).2.2.1, (raws.getD j yi).2.2.2.1, (raws.getD j yi).2.2.2.2)) h1.row (k := 5) rfl g (by omega) (by rfl) ?_
  intro w2 ho2 o2
  refine hK w2 ⟨⟨_, _, ⟨ho2, by rw [List.length_set, List.length_set]; exact hl, fun k hk => ?_⟩, h2.step j1 j2 j3⟩, ss, h3.only o2 (fun q hq e => h3.ne h1.row (by decide) q hq e), h4.more j5⟩ (o2.mono (fun q hq => .inl hq))
  rw [List.length_set] at hk
  rw [kG hj, kG (by rw [h2.1]; exact j1)]
  have hc : ∀ {r : Raw} {e : Ent}, xK w B0 r e -> xK w2 B0 r e := fun hE => ⟨hE.name, hE.rest, hE.cols.only o2 (fun q hq e => hE.cols.ne h1.row (by decide) q hq e)⟩
  by_cases e : j = k
  ·rw [if_pos e, if_pos e]
   have hE2 := hc hE
   rw [hm] at hE2
   refine ⟨hE2.name, ?_, hE2.cols⟩
   have := hE2.rest
   dsimp only at this ⊢
   rw [Prod.ext_iff] at this
   rw [this.2]
  ·rw [if_neg e, if_neg e]
   exact hc (h1.at_ k hk)
 ·have hj : j < ss.length := by rw [h4.1]; exact j1
  have g : ss[j]? = some (ss.getD j yb) := by rw [List.getD_eq_getElem?_getD, List.getElem?_eq_getElem hj]; rfl
  have hm := h4.2 j j1
  refine Owni.stF (x' := c.2.getD j yb) h3 (k := 2) rfl g (by omega) (by rw [hm]; rfl) ?_
  intro w2 ho2 o2
  refine hK w2 ⟨⟨_, _, ⟨h1.row.only o2 (fun q hq e => h1.row.ne h3 (by decide) q hq e), hl, fun k hk => ?_⟩, h2.more j5⟩, _, ho2, h4.step j1 j2 j3⟩ (o2.mono (fun q hq => .inr hq))
  have hE := h1.at_ k hk
  exact ⟨hE.name, hE.rest, hE.cols.only o2 (fun q hq e => hE.cols.ne h3 (by decide) q hq e)⟩
end V
/- Contracts of the package catalog: Get, whole. -/
namespace V
open Go Go.Proofs Go.RowKit Crc
variable {w w' : World} {b db : Nat} {S : Spa} {F : Nat -> Prop} {R : List Nat}
theorem ya.same {a c : Nat} (h : ya w b db S F) (hs : yO a c w w') (ha : ¬ F a) (hc : ¬ F c) : ya w' b db S F :=
 h.only (G := fun k => k = a \/ k = c) ⟨hs.1, hs.2.1, hs.2.2.1, Nat.le_of_eq hs.2.2.2.1.symm, fun k _ hk => hs.2.2.2.2 k (fun e => hk (.inl e)) (fun e => hk (.inr e))⟩ (fun j hj e => by rcases e with rfl | rfl; exact ha hj; exact hc hj)
theorem zoH (h : ya w b db S F) {n : Nat} {bs : ByteArray} {ks : List Nat} (hn : n < 4294967296) (hd : uG S) (hB : Blob S n bs ks) : Calls Tryz.prog 82 #[.pointer (some ⟨b, 0, none⟩), .int .u32 (n : Int)] w (Ret fun v w' => v = .tuple #[.string bs, .int .i64 0] /\ Ext w w') := by
 obtain ⟨q0, q1, q2, q3⟩ := xN hd
 obtain ⟨Fd, x, hb, hr, nb, nr, m, h'⟩ := h
 have hp := hB.plen hd
 refine (zjz h' hn hp.1 hp.2).mono (Ret.mono ?_)
 rintro v w' ⟨rfl, he⟩
 rw [hB.get (by omega)]
 exact ⟨rfl, he⟩
def zpA (w0 : World) (b db : Nat) (S : Spa) (F : Nat -> Prop) (r1 r5 r6 z : Nat) (ks vs : List Nat) (V : Nat -> Prop) (i : Nat) (w : World) : Prop :=
 ya w b db S F /\ ∃ A1 A2 c1 c2, Gath w0 w r1 r5 r6 i (ks.take i) (vs.take i) A1 A2 c1 c2 /\ (∀ k, V k \/ k = z \/ k = z + 1 -> r6 < k /\ orow A1 ≠ some k /\ orow A2 ≠ some k) /\ z <= w.heap.size
theorem zhc {l : List Nat} {i : Nat} (h : i < l.length) : l.take (i + 1) = l.take i ++ [l.getD i 0] := by
 rw [List.take_succ_eq_append_getElem h, List.getD_eq_getElem?_getD, List.getElem?_eq_getElem h]; rfl
theorem zhd (h : ya w b db S F) (hg : Good S R) {n : Nat} {c : Cat} (hp : zmY S n c) (hu : zI S.sup.pages S.now n = true) :
  Calls Tryz.prog 25 #[.pointer (some ⟨b, 0, none⟩), .int .u32 (n : Int)] w (Ret fun v w' => (∃ x y, v = .tuple #[.agg (zY x y).toArray, .int .i64 0] /\ yD w' w.heap.size x y c) /\ Ext w w') := by
 obtain ⟨hIs, bn, bks, hT, hBl⟩ := hp
 have hn2 := (zN.1 hu).1
 have hdN := hg.dims.n
 have hn32 : n < 4294967296 := by have := hg.well.lt hu; omega
 have hkvl := zkA c
 have ht16 := hIs.tabs
 have hs16 := hIs.snaps
 have hkl : (qF c).length = (kvC c).length := by unfold qF; rw [List.length_map]
 have hvl : (xt c).length = (kvC c).length := by unfold xt; rw [List.length_map]
 have hlen : (0 :: qF c).length = (bn :: xt c).length := hT.len
 have hFlt := h.lt
 -- what the tree's values are
 have hvu : ∀ v ∈ bn :: xt c, zI S.sup.pages S.now v = true := by
  cases hT with
  | one hA => exact fun v hv => (hg.well.good n hu).2 v (by unfold yp; rw [hA.1]; exact hv)
  | two m a c' h1 h2 h3 h4 h5 h6 h7 h8 =>
   have hkid : yp S.page n = [a, c'] := by unfold yp; rw [h6]
   have hua := ((hg.well.good n hu).2 a (by rw [hkid]; simp))
   have huc := ((hg.well.good n hu).2 c' (by rw [hkid]; simp))
   intro v hv
   rw [<- List.take_append_drop m (bn :: xt c)] at hv
   rcases List.mem_append.1 hv with e | e
   ·exact (hg.well.good a hua).2 v (by unfold yp; rw [h7.1]; exact e)
   ·exact (hg.well.good c' huc).2 v (by unfold yp; rw [h8.1]; exact e)
 have hv32 : ∀ v ∈ bn :: xt c, v < 4294967296 := fun v hv => by have := hg.well.lt (hvu v hv); omega
 apply zno
 unfold S25
 refine zr fun r1 w1 hb1 he1 hr1 hz1 => ?_
 have hb1 : Blk w1 r1 (zY (none, 0, 0) (none, 0, 0)) 25 := hb1
 refine zc (beq_eq_false_iff_ne.2 (by omega)) ?_
 refine zb (zgN (h.ext he1) hg hT hu (by rw [List.length_cons]; omega)) ?_
 rintro _ w2 ⟨rfl, he2⟩
 refine ⟨_, rfl, zc (by rfl) ?_⟩
 refine zr fun r5 w3 hb5 he3 hr5 hz3 => ?_
 refine zr fun r6 w4 hb6 he4 hr6 hz4 => ?_
 have he24 := he3.trans he4
 have he04 := (he1.trans he2).trans he24
 have hb14 := (hb1.ext he2).ext he24
 have hb54 := hb5.ext he4
 have hs2 := he2.size
 refine zb (zjo (zjn (b := b) (db := db) (F := F) hg hT hu (by rw [List.length_cons]; omega) hv32) (by omega)) ?_
 rintro v w5 ⟨Q, R0, hit, hR0, hRx, hQl, hQ, he5⟩
 refine ⟨v, rfl, ?_⟩
 have hs5 := he5.size
 have hL : (zbe (0 :: qF c) (bn :: xt c)).length = (0 :: qF c).length := zam hlen
 generalize hKs : (0 :: qF c) = KS at *
 generalize hVs : (bn :: xt c) = VS at *
 refine zgH (fun i => ((KS.getD i 0 : Int), (VS.getD i 0 : Int), ())) ?_ (zpA w b db S F r1 r5 r6 w5.heap.size KS VS) (fun _ _ _ => False) hit hQl (fun w' w'' hs hS => hS.same hs (fun hf => by have := hFlt _ hf; omega) (fun hf => by have := hFlt _ hf; omega)) (fun _ _ _ _ => trivial) (fun V i w' hI => hI.1) ?_ (fun _ _ _ _ _ hf _ _ => hf.elim) ?_ (fun o => hRx _ _ hR0 (((Ext.refl w5).alloc _).alloc _)) ?_ ?_ (fun _ _ _ hf _ _ => hf.elim)
 ·intro i hi
  exact (List.getElem?_eq_some_iff.1 (zbf hlen (by rw [<- hL]; exact hi))).2.symm
 ·rintro V V' i w' w'' ⟨g1, A1, A2, c1, c2, g2, g3, g4⟩ hO hV hR
  have l6 := g2.b6.lt
  refine ⟨hR, A1, A2, c1, c2, g2.only hO (by omega) ⟨by omega, by omega⟩ g3, fun k hk => ?_, by have := hO.2.2.2.1; omega⟩
  rcases hk with hk | hk
  ·rcases hV k hk with e | e
   ·exact g3 k (.inl e)
   ·exact ⟨by omega, fun e2 => by have := g2.ks.yc _ e2; omega, fun e2 => by have := g2.vs.yc _ e2; omega⟩
  ·exact g3 k (.inr hk)
 ·intro o
  have hx : Ext w5 ((w5.alloc (.deferred (some []))).alloc o) := ((Ext.refl w5).alloc _).alloc _
  refine ⟨(h.ext (he04.trans he5)).ext hx, none, none, 0, 0, ⟨(he04.trans he5).trans hx, (hb14.ext he5).ext hx, (hb54.ext he5).ext hx, (hb6.ext he5).ext hx, Owni.nil _ _ _, Owni.nil _ _ _⟩, fun k hk => ⟨?_, by simp [orow, Value.ownBlock], by simp [orow, Value.ownBlock]⟩, hx.size⟩
  rcases hk with hk | hk
  ·have := hQ k hk; omega
  ·omega
 ·rintro V i hi w' G N jump hI hsz hV hVb hG
  have hi' : i < KS.length := by rw [<- hL]; exact hi
  refine hG _ w' hI (Nat.le_refl _) (fun _ _ => rfl) ?_
  rintro w2' ⟨g1, A1, A2, c1, c2, g2, g3, g4⟩ hs2' hk2 hNC hN' hJ'
  dsimp only
  have hKl : KS.length <= 33 := by rw [<- hKs, List.length_cons]; omega
  have hvi : VS.getD i 0 < 4294967296 := qY hv32 (by omega) i
  refine zjA g2 ⟨by omega, by omega, by omega⟩ (by omega) hvi ?_
  intro A1' A2' c1' c2' w3' g5 o5 n1 n2
  have hnr : ∀ k, V k \/ k = w5.heap.size \/ k = w5.heap.size + 1 -> ¬ (k = r5 \/ k = r6 \/ orow A1 = some k \/ orow A2 = some k) /\ k < w2'.heap.size := fun k hk => by
   obtain ⟨q1, q2, q3⟩ := g3 k hk
   refine ⟨fun e => ?_, ?_⟩
   ·rcases e with e | e | e | e
    ·omega
    ·omega
    ·exact q2 e
    ·exact q3 e
   ·rcases hk with hk | hk
    ·have := (hV k hk).1; omega
    ·omega
  have hsp' : ya w3' b db S F := g1.only o5 (fun j hj e => by
   have := hFlt j hj
   rcases e with e | e | e | e
   ·omega
   ·omega
   ·have := g2.ks.row j e; omega
   ·have := g2.vs.row j e; omega)
  refine hN' w3' hsp' ⟨hsp', A1', A2', c1', c2', by rw [zhc hi', zhc (by omega)]; exact g5, fun k hk => ?_, by have := o5.2.2.2.1; omega⟩ o5.2.2.2.1 (fun k hk => ?_)
  ·obtain ⟨q1, q2, q3⟩ := g3 k hk
   obtain ⟨_, q4⟩ := hnr k hk
   refine ⟨q1, fun e => ?_, fun e => ?_⟩
   ·rcases n1 k e with e | e
    ·exact q2 e
    ·omega
   ·rcases n2 k e with e | e
    ·exact q3 e
    ·omega
  ·have hk : V k \/ k = w5.heap.size \/ k = w5.heap.size + 1 := by
    rcases hk with e | e | e
    ·exact .inr (.inl e)
    ·exact .inr (.inr e)
    ·exact .inl e
   obtain ⟨q1, q2⟩ := hnr k hk
   exact o5.2.2.2.2 k q2 q1
 ·rintro V w' ⟨g1, A1, A2, c1, c2, g2, g3, g4⟩ _ hsz hdf
  rw [jd]
  rw [hL] at g2
  rw [List.take_of_length_le (Nat.le_refl _), List.take_of_length_le (by omega)] at g2
  have htp := zkz hg hT hu
  refine zb (zgW g1 hn32 htp.1 htp.2) ?_
  rintro _ w6 ⟨rfl, he6⟩
  refine ⟨_, rfl, zc (by rfl) ?_⟩
  have g6 := g2.ext' he6
  have sp6 := g1.ext he6
  have hdf6 := he6.heap hdf
  have hs6 := he6.size
  have hKl : 1 <= KS.length /\ KS.length <= 33 := by rw [<- hKs, List.length_cons]; omega
  refine zE ((A1, KS.length, c1) : SLC) g6.b5 (by rfl) (zc (beq_eq_false_iff_ne.2 (by dsimp only; omega)) ?_)
  refine zE ((A1, KS.length, c1) : SLC) g6.b5 (by rfl) ?_
  refine zR g6.ks.sl (by omega) (by dsimp only; omega) ?_
  have hK0 : KS.getD (Int.toNat 0) 0 = 0 := by rw [<- hKs]; rfl
  have hV0 : VS.getD (Int.toNat 0) 0 = bn := by rw [<- hVs]; rfl
  rw [hK0]
  refine zc (by rfl) ?_
  refine zE ((A2, KS.length, c2) : SLC) g6.b6 (by rfl) ?_
  refine zR g6.vs.sl (by omega) (by dsimp only; omega) ?_
  rw [hV0]
  have hbnm : bn ∈ VS := by rw [<- hVs]; exact List.mem_cons_self
  refine zb (zoH sp6 (hv32 bn hbnm) hg.dims (hBl.blob hg (hvu bn hbnm))) ?_
  rintro _ w7 ⟨rfl, he7⟩
  refine ⟨(mkB (x6 c), 0, ()), rfl, zc (by rfl) ?_⟩
  have hcl := hIs.len
  refine zb (zfG (s := mkB (x6 c)) (by rw [xm]; omega)) ?_
  rintro _ w8 ⟨⟨x, y, rfl, hown⟩, he8⟩
  rw [xj, ziU hIs] at hown ⊢
  refine ⟨(xZ x y, 0, ()), rfl, ?_⟩
  refine yE (vs := zY x y) (by rfl) (qk _ _) (fun r41 w9 hb41 he9 hr41 => ?_) (by rfl)
  refine zc (by rfl) ?_
  have hown9 := hown.ext he9
  have hcat := hown9.cat
  have he68 := he7.trans he8
  have he69 := he68.trans he9
  have hs7 := he7.size
  have hs8 := he8.size
  have hs9 := he9.size
  have g9 := g6.ext' he69
  have hdf9 := he69.heap hdf6
  refine zb (zc4 hb41 hcat (by show (ones c).1.length <= _; unfold ones; rw [List.length_map]; omega) (by show (ones c).2.length <= _; unfold ones; rw [List.length_map]; omega)) ?_
  rintro _ w10 ⟨Asp, ksp, rfl, hsp, he10⟩
  refine ⟨(Asp, (yA x y (ones c)).length, ksp), rfl, ?_⟩
  have hso := zjB x y c
  have hsl : (yA x y (ones c)).length = (yA x y c).length := by have := congrArg List.length hso; rwa [List.length_map, List.length_map] at this
  rw [hso, hsl] at hsp
  rw [hsl]
  have g10 := g9.ext' he10
  have hdf10 := he10.heap hdf9
  have hs10 := he10.size
  have hspl := zcl x y c
  have hkv := zdz x y c
  have hlx := hb41.lt
  -- rows
  have rx : (∀ j, orow x.1 = some j -> w7.heap.size <= j /\ j < w8.heap.size) /\ (∀ j, orow y.1 = some j -> w7.heap.size <= j /\ j < w8.heap.size) := by
   obtain ⟨⟨raws, q1⟩, q2⟩ := hown
   exact ⟨fun j hj => ⟨q1.row.row j hj, q1.row.yc j hj⟩, fun j hj => ⟨q2.row j hj, q2.yc j hj⟩⟩
  have rA1 := g6.ks.yc
  have rA2 := g6.vs.yc
  have l6 := g6.b6.lt
  refine zE ((A1, KS.length, c1) : SLC) g10.b5 (by rfl) ?_
  have hKl2 : KS.length = (yA x y c).length + 1 := by rw [<- hKs, List.length_cons, hkl, hspl]
  refine zc (bne_eq_false_iff_eq.2 (by dsimp only; rw [wrap_i64 (by omega) (by omega)]; omega)) ?_
  generalize hspd : yA x y c = sp at *
  refine zx (fun t w' => ∃ i : Nat, i <= sp.length /\ t = ((i : Int), ()) /\ uW w' w7.heap.size x y c i /\ Gath w w' r1 r5 r6 KS.length KS VS A1 A2 c1 c2 /\ Blk w' r41 (zY x y) 25 /\ Owni spE 140 w' w9.heap.size Asp sp.length ksp (sp.map spP) /\ w'.heap[w5.heap.size]? = some (.deferred (some []))) (fun t => (sp.length - t.1).toNat)
   ⟨0, by omega, rfl, (zoG hown9).ext he10, g10, hb41.ext he10, hsp, hdf10⟩ ?_
  rintro _ w11 ⟨i, hi, rfl, hmx, g11, hb11, hsp11, hdf11⟩
  dsimp only
  by_cases hlt : i < sp.length
  ·refine zf (decide_eq_true (by omega)) ?_
   have eg : (sp.map spP)[i]? = some (spP (sp[i]'hlt)) := by rw [List.getElem?_map, List.getElem?_eq_getElem hlt]; rfl
   have egs : (yA x y c)[i]? = some (sp[i]'hlt) := by rw [hspd, List.getElem?_eq_getElem hlt]
   have ekey : KS.getD (i + 1) 0 = (sp[i]'hlt).1 := by
    rw [<- hKs]
    show (qF c).getD i 0 = _
    unfold qF
    rw [<- hkv, List.map_map, List.getD_eq_getElem?_getD, List.getElem?_map, List.getElem?_eq_getElem hlt]; rfl
   have eval : VS.getD (i + 1) 0 = (sp[i]'hlt).2.2 := by
    rw [<- hVs]
    show (xt c).getD i 0 = _
    unfold xt
    rw [<- hkv, List.map_map, List.getD_eq_getElem?_getD, List.getElem?_map, List.getElem?_eq_getElem hlt]; rfl
   generalize sp[i]'hlt = p at *
   refine xS hsp11.sl (by omega) (x := spP p) (by rw [Int.toNat_natCast]; exact eg) rfl ?_
   intro pa hpa hca
   refine qv (ls := [.int .u64, .ptr]) (x := ((p.1 : Int), some p.2.1, ())) hca ?_
   refine yE (vs := [.int .u64 (p.1 : Int), .pointer (some p.2.1)]) (by rfl) (by
    intro v hv
    simp only [List.mem_cons, List.not_mem_nil, or_false] at hv
    rcases hv with rfl | rfl <;> rfl) (fun r50 w12 hb50 he12 hr50 => ?_) (by rfl)
   refine zK fun w13 he13 hz13 hh13 => ?_
   have he113 := he12.trans he13
   have g13 := g11.ext' he113
   have hb50 := hb50.ext he13
   have hw : IntKind.wrap .i64 ((i : Int) + 1) = ((i + 1 : Nat) : Int) := by rw [wrap_i64 (by omega) (by omega)]; rfl
   rw [hw]
   refine zE ((A1, KS.length, c1) : SLC) g13.b5 (by rfl) ?_
   refine zR g13.ks.sl (by omega) (by dsimp only; omega) ?_
   rw [Int.toNat_natCast, ekey]
   refine zE ((p.1 : Nat) : Int) hb50 (by rfl) (zc (by simp) ?_)
   refine zK fun w14 he14 hz14 hh14 => ?_
   have he114 := he113.trans he14
   have g14 := g11.ext' he114
   refine zn 1 (some p.2.1) (hb50.ext he14) (by rfl) ?_
   refine zE ((A2, KS.length, c2) : SLC) g14.b6 (by rfl) ?_
   refine zR g14.vs.sl (by omega) (by dsimp only; omega) ?_
   rw [Int.toNat_natCast, eval]
   refine zs ?_
   refine zpe (hmx.ext he114) egs ?_
   intro w15 hmx15 o15
   have hG : ∀ k, (orow x.1 = some k \/ orow y.1 = some k) -> w7.heap.size <= k /\ k < w8.heap.size := fun k hk => by
    rcases hk with e | e
    ·exact rx.1 k e
    ·exact rx.2 k e
   refine ⟨⟨i + 1, by omega, rfl, hmx15, g14.only o15 (by omega) ⟨by omega, by omega⟩ (fun k hk => ?_), (hb11.ext he114).only o15 (fun e => by have := hG _ e; omega), (hsp11.ext he114).only o15 (fun j hj e => by have := hG _ e; have := hsp11.row j hj; omega), ?_⟩, by omega⟩
   ·have := hG k hk
    exact ⟨by omega, fun e => by have := rA1 _ e; omega, fun e => by have := rA2 _ e; omega⟩
   ·have hz : w5.heap.size < w14.heap.size := by have := (Array.getElem?_eq_some_iff.1 (he114.heap hdf11)).1; omega
    rw [o15.2.2.2.2 _ hz (fun e => by have := hG _ e; omega)]
    exact he114.heap hdf11
  ·obtain rfl : i = sp.length := by omega
   refine zc (decide_eq_false (by omega)) ?_
   have hc := zkD hmx (by rw [hspd]; exact Nat.le_refl _)
   refine zW (ls := xV) (xZ x y) hb11 (by rfl) ?_
   refine refill (vs := zY x y) g11.b1 (by rfl) (qk _ _) (by rfl) ?_
   intro w12 hb12 hx12 hk12 hz12
   have he12 := hx12 w g11.ext (by omega)
   have heo := g11.ext
   refine jn (by rw [hk12 _ (by omega)]; exact hdf11) ?_
   have hsb := zX (a := w5.heap.size) (b := w5.heap.size + 1) (w := w12) (o := .deferred none) (.inl rfl)
   refine zW (ls := xV) (xZ x y) (hsb.blk hb12 (by omega)) (by rfl) ?_
   have o1 : Only (fun k => k = r1) w11 w12 := ⟨he12.os.trans heo.os.symm, he12.tape.trans heo.tape.symm, he12.output.trans heo.output.symm, Nat.le_of_eq hz12.symm, fun k _ hk => hk12 k hk⟩
   have o2 : Only (fun k => k = w5.heap.size) w12 (yr w12 w5.heap.size (.deferred none)) := Only.yr rfl
   refine ⟨⟨x, y, rfl, ((hc.only o1 (fun k hk => by omega)).only o2 (fun k hk => by omega)).lower (by have := he04.size; omega)⟩, hsb.ext he12 (by omega)⟩
end V
/- Contracts of the package catalog: Find, Copy. -/
namespace V
open Go Go.Proofs Go.RowKit Crc
variable {w w' : World}
theorem zhe {p q : Nat -> Bool} {n : Nat} (h : ∀ j, j < n -> p j = q j) : yX p n = yX q n := by
 have aux : ∀ l : List Nat, (∀ j ∈ l, p j = q j) -> l.findIdx p = l.findIdx q := by
  intro l
  induction l with
  | nil => intro _; rfl
  | cons a r ih =>
   intro hl
   rw [List.findIdx_cons, List.findIdx_cons, hl a List.mem_cons_self, ih (fun j hj => hl j (List.mem_cons_of_mem _ hj))]
 exact aux _ (fun j hj => h j (List.mem_range.1 hj))
def v8 (c : Cat) (s : ByteArray) : Nat := yX (fun j => decide (B (c.1.getD j zS).1 = B s)) c.1.length
def kY (c : Cat) (s : ByteArray) : Int × Int := if v8 c s < c.1.length then ((v8 c s : Int), 0) else (0, 210)
theorem zeU {r : Raw} {b : Nat} {s : ByteArray} {t : TypeId} (hb : Blk w b [.string s] t) : Calls Tryz.prog 56 #[.agg (yn.f r).toArray, .pointer (some ⟨b, 0, none⟩)] w (Ret fun v w' => v = .bool (decide (B r.1 = B s)) /\ Ext w w') := by
 apply znC
 unfold S56
 refine zr fun r1 w1 hb1 he1 hr1 hz1 => ?_
 have hb1 : Blk w1 r1 (yn.f r) 44 := hb1
 refine zE r.1 hb1 (by rfl) (zE s (hb.ext he1) (by rfl) ?_)
 exact ⟨by rw [qV], he1⟩
theorem zbz {x y : SLC} {c : Cat} (h : qA w x y c) (s : ByteArray) :
  Calls Tryz.prog 17 #[.agg (zY x y).toArray, .string s] w (Ret fun v w' => v = .tuple #[.int .i64 (kY c s).1, .int .i64 (kY c s).2] /\ Ext w w') := by
 obtain ⟨⟨raws, hT⟩, hs, hcx, hcy⟩ := h
 have hl := hT.len
 apply zni
 unfold S17
 refine zr fun r1 w1 hb1 he1 hr1 hz1 => ?_
 have hb1 : Blk w1 r1 (zY x y) 25 := hb1
 refine zr fun r2 w2 hb2 he2 hr2 hz2 => ?_
 have he := he1.trans he2
 refine zE x (hb1.ext he2) (by rfl) ?_
 refine zb (zcj (q := fun j => decide (B (raws.getD j yi).1 = B s)) (by kernel_rfl) (hT.sl.ext he) (fun w' i he' hi => zeU (hb2.ext he'))) ?_
 rintro _ w3 ⟨rfl, he3⟩
 refine ⟨_, rfl, ?_⟩
 have hq : yX (fun j => decide (B (raws.getD j yi).1 = B s)) raws.length = v8 c s := by
  unfold v8
  rw [hl]
  exact zhe (fun j hj => by rw [(hT.at_ j hj).name])
 rw [hq, hl]
 unfold kY
 by_cases hlt : v8 c s < c.1.length
 ·rw [if_pos hlt, if_pos hlt]
  exact zc (decide_eq_false (by omega)) ⟨rfl, he.trans he3⟩
 ·rw [if_neg hlt, if_neg hlt]
  exact zf (by rfl) ⟨rfl, he.trans he3⟩
theorem Owni.neB {α : Type} {E : Enc α} {w : World} {e t : TypeId} {B n c r : Nat} {A : Option Addr} {xs : List α} {cs : List Value} (h : Owni E e w B A n c xs) (hb : Blk w r cs t) (he : e ≠ t) : ∀ j, orow A = some j -> j ≠ r := by
 intro j hj hr
 subst hr
 rcases h.2 with ⟨hv, _⟩ | ⟨g, cap, cur, hv, _, hg, _⟩
 ·injection hv with hv; subst hv; cases hj
 ·injection hv with hv
  subst hv
  have e1 : g = j := Option.some.inj hj
  subst e1
  have hb' : w.heap[g]? = some _ := hb
  rw [hg] at hb'
  injection hb' with hb'
  injection hb' with _ e2 _
  exact he e2
theorem zkE : jN Tryz.prog 40 62 (.agg #[.string ByteArray.empty, .int .i64 0, .bool false]) xM.k 32 := ⟨by kernel_rfl, by kernel_rfl, by kernel_rfl⟩
theorem zcn {x : SLC} {xs : List Raw} (h : Sli yn w x.1 x.2.1 xs) (hn : x.2.1 <= 1000000) :
  Calls Tryz.prog 65 #[.slice x.1 x.2.1 x.2.2] w (Ret fun v w' => ∃ A c, v = .slice A x.2.1 c /\ Owni yn 44 w' w.heap.size A x.2.1 c xs /\ Ext w w') := by
 apply znJ
 unfold S65
 exact zeB (K := fun v w' => ∃ A c, v = .slice A x.2.1 c /\ Owni yn 44 w' w.heap.size A x.2.1 c xs /\ Ext w w') zgS h (by omega) (by omega) fun A' c' w' ho he => ⟨A', c', rfl, ho, he⟩
theorem uJ {x : SLC} {xs : List Snp} (h : Sli xv w x.1 x.2.1 xs) (hn : x.2.1 <= 1000000) :
  Calls Tryz.prog 66 #[.slice x.1 x.2.1 x.2.2] w (Ret fun v w' => ∃ A c, v = .slice A x.2.1 c /\ Owni xv 46 w' w.heap.size A x.2.1 c xs /\ Ext w w') := by
 apply znK
 unfold S66
 exact zeB (K := fun v w' => ∃ A c, v = .slice A x.2.1 c /\ Owni xv 46 w' w.heap.size A x.2.1 c xs /\ Ext w w') zgT h (by omega) (by omega) fun A' c' w' ho he => ⟨A', c', rfl, ho, he⟩
theorem zhf {x : SLC} {xs : List Col} (h : Sli xM w x.1 x.2.1 xs) (hn : x.2.1 <= 1000000) :
  Calls Tryz.prog 67 #[.slice x.1 x.2.1 x.2.2] w (Ret fun v w' => ∃ A c, v = .slice A x.2.1 c /\ Owni xM 62 w' w.heap.size A x.2.1 c xs /\ Ext w w') := by
 apply znL
 unfold S67
 exact zeB (K := fun v w' => ∃ A c, v = .slice A x.2.1 c /\ Owni xM 62 w' w.heap.size A x.2.1 c xs /\ Ext w w') zkE h (by omega) (by omega) fun A' c' w' ho he => ⟨A', c', rfl, ho, he⟩
def zjC (c : Cat) : Prop := c.1.length <= 1000 /\ c.2.length <= 1000 /\ ∀ e ∈ c.1, e.2.1.length <= 1000
structure zeV (w0 w : World) (r2 r7 : Nat) (X Y : SLC) (raws : List Raw) (c : Cat) (i : Nat) (raws' : List Raw) : Prop where
 ext : Ext w0 w
 b2 : Blk w r2 (zY (none, 0, 0) (none, 0, 0)) 25
 b7 : Blk w r7 (zY X Y) 25
 row : Owni yn 44 w w0.heap.size X.1 X.2.1 X.2.2 raws'
 len : raws'.length = raws.length
 done : ∀ j, j < i -> xK w w0.heap.size (raws'.getD j yi) (c.1.getD j zS)
 left : ∀ j, i <= j -> raws'.getD j yi = raws.getD j yi
 snps : Owni xv 46 w w0.heap.size Y.1 Y.2.1 Y.2.2 c.2
theorem zeV.ext' {w0 : World} {r2 r7 i : Nat} {X Y : SLC} {raws raws' : List Raw} {c : Cat} (h : zeV w0 w r2 r7 X Y raws c i raws') (he : Ext w w') : zeV w0 w' r2 r7 X Y raws c i raws' :=
 ⟨h.ext.trans he, h.b2.ext he, h.b7.ext he, h.row.ext he, h.len, fun j hj => (h.done j hj).ext he, h.left, h.snps.ext he⟩
theorem zco {w0 : World} {r2 r7 : Nat} {x X Y : SLC} {raws : List Raw} {c : Cat} {K : Value -> WP} (hT : uF w0 x raws c.1) (hX : X.2.1 = raws.length) (hlt : zjC c) (h2 : w0.heap.size <= r2) (h7 : w0.heap.size <= r7) (h27 : r2 ≠ r7) (h : zeV w0 w r2 r7 X Y raws c 0 raws)
  (hK : ∀ w', yD w' w0.heap.size X Y c -> Ext w0 w' -> K (.agg (zY X Y).toArray) w') :
  (ldW .slc (aD r7) fun (u8 : SLC) =>
   zD (Int × Unit) ((0 : Int), ()) fun (y10 : Int × Unit) (I9 : (Int × Unit) -> WP) =>
   za (decide (y10.1 < ((u8.2.1 : Nat) : Int))) (zd (0 <= y10.1 /\ y10.1 < ((u8.2.1 : Nat) : Int)) <|
   zh u8.1 fun (p11 : Addr) =>
   zk [.str, .slc, (.int .u32), (.int .u64), (.int .i64)] (p11.add (Int.toNat y10.1 * 5)) fun (u12 : (ByteArray × SLC × Int × Int × Int × Unit)) =>
   zi (.cells #[(.string ByteArray.empty), (.slice none 0 0), (.int .u32 (0 : Int)), (.int .u64 (0 : Int)), (.int .i64 (0 : Int))] 44) fun (r13 : Nat) =>
   zd ((#[(.string u12.1), (.slice u12.2.1.1 u12.2.1.2.1 u12.2.1.2.2), (.int .u32 u12.2.2.1), (.int .u64 u12.2.2.2.1), (.int .i64 u12.2.2.2.2.1)] : Array Value).size = 5) <|
   zt (aD r13) [(.string u12.1), (.slice u12.2.1.1 u12.2.1.2.1 u12.2.1.2.2), (.int .u32 u12.2.2.1), (.int .u64 u12.2.2.2.1), (.int .i64 u12.2.2.2.2.1)] <|
   zA <|
   ldW .slc (aD r7) fun (u14 : SLC) =>
   ldW .slc ((aD r13).add 1) fun (u15 : SLC) =>
   ze Tryz.prog 67 [(.slice u15.1 u15.2.1 u15.2.2)] (.one (.one .slc)) fun (u16 : SLC) =>
   zq [[((aD r7), (.slice u14.1 u14.2.1 u14.2.2))]] <|
   zd (0 <= y10.1 /\ y10.1 < ((u14.2.1 : Nat) : Int)) <|
   zh u14.1 fun (p17 : Addr) =>
   stW ((p17.add (Int.toNat y10.1 * 5)).add 1) (.slice u16.1 u16.2.1 u16.2.2) <| I9 ((IntKind.wrap .i64 (y10.1 + (1 : Int))), ())) <|
   zk [.slc, .slc] (aD r7) fun (u18 : (SLC × SLC × Unit)) =>
   zd ((#[(.slice u18.1.1 u18.1.2.1 u18.1.2.2), (.slice u18.2.1.1 u18.2.1.2.1 u18.2.1.2.2)] : Array Value).size = 2) <|
   zt (aD r2) [(.slice u18.1.1 u18.1.2.1 u18.1.2.2), (.slice u18.2.1.1 u18.2.1.2.1 u18.2.1.2.2)] <|
   zk [.slc, .slc] (aD r2) fun (u19 : (SLC × SLC × Unit)) => K (.agg #[(.slice u19.1.1 u19.1.2.1 u19.1.2.2), (.slice u19.2.1.1 u19.2.1.2.1 u19.2.1.2.2)])) w := by
 have hl := hT.len
 obtain ⟨hl1, hl2, hl3⟩ := hlt
 refine zE X h.b7 (by rfl) ?_
 refine zx (fun q w' => ∃ (i : Nat) (raws' : List Raw), i <= raws.length /\ q = ((i : Int), ()) /\ zeV w0 w' r2 r7 X Y raws c i raws') (fun q => (raws.length - q.1).toNat) ⟨0, raws, by omega, rfl, h⟩ ?_
 rintro _ w1 ⟨i, raws', hi, rfl, g⟩
 dsimp only
 have hl' := g.len
 by_cases hlt : i < raws.length
 ·refine zf (decide_eq_true (by omega)) ?_
  have eg : raws'[i]? = some (raws'.getD i yi) := by rw [List.getD_eq_getElem?_getD, List.getElem?_eq_getElem (by omega)]; rfl
  have eL := g.left i (Nat.le_refl _)
  have hE := (hT.at_ i (by omega)).ext g.ext
  rw [<- eL] at hE
  have hmem : c.1.getD i zS ∈ c.1 := by rw [List.getD_eq_getElem?_getD, List.getElem?_eq_getElem (by omega)]; exact List.getElem_mem _
  have hcl := hl3 _ hmem
  generalize hp : raws'.getD i yi = p at *
  refine xS g.row.sl (by omega) (x := p) (by rw [Int.toNat_natCast]; exact eg) rfl ?_
  intro pa hpa hca
  refine qv (ls := zd9) (x := za7 p) hca ?_
  refine yE (vs := yn.f p) (by rfl) (yn.one _) (fun r13 w2 hb2 he2 hr2 => ?_) (by rfl)
  refine zK fun w3 he3 hz3 hh3 => ?_
  have he13 := he2.trans he3
  have g3 := g.ext' he13
  have hb3 := hb2.ext he3
  refine zE X g3.b7 (by rfl) (zn 1 p.2.1 hb3 (by rfl) ?_)
  have hcs := hE.cols.ext he13
  have hcsl := hcs.len
  refine zb (zhf (x := p.2.1) hcs (by omega)) ?_
  rintro _ w4 ⟨A4, k4, rfl, ho4, he4⟩
  refine ⟨(A4, p.2.1.2.1, k4), rfl, ?_⟩
  have g4 := g3.ext' he4
  refine xC (z6 g4.b7 rfl) ?_
  refine zJ ⟨by omega, by omega⟩ ?_
  obtain ⟨a, hA⟩ : ∃ a, X.1 = some a := by
   obtain ⟨a, ha, _⟩ := g4.row.sl.2.2 (by omega)
   exact ⟨a, ha⟩
  refine ⟨a, hA, ?_⟩
  have hadr : (a.add (Int.toNat (i : Int) * 5)).add 1 = ((adr X.1).add (i * 5)).add 1 := by rw [hA, Int.toNat_natCast]; rfl
  have hw : IntKind.wrap .i64 ((i : Int) + 1) = ((i + 1 : Nat) : Int) := by rw [wrap_i64 (by omega) (by omega)]; rfl
  show stW ((a.add (Int.toNat (i : Int) * 5)).add 1) (.slice A4 p.2.1.2.1 k4) _ w4
  rw [hadr, hw]
  refine Owni.stF (x' := (p.1, (A4, p.2.1.2.1, k4), p.2.2)) g4.row (k := 5) rfl eg (by omega) (by rfl) ?_
  intro w5 ho5 o5
  have hrow := g4.row.row
  have hsz := g.ext.size
  have hsz3 := he13.size
  refine ⟨⟨i + 1, _, by omega, rfl, Only.ext g4.ext o5 (fun j hj => hrow j hj), g4.b2.only o5 (fun e => ?_), g4.b7.only o5 (fun e => ?_), ho5, by rw [List.length_set]; exact hl', fun j hj => ?_, fun j hj => ?_, g4.snps.only o5 (fun q hq e => g4.snps.ne g4.row (by decide) q hq e)⟩, by omega⟩
  ·exact Owni.neB g4.row g4.b2 (by decide) _ e rfl
  ·exact Owni.neB g4.row g4.b7 (by decide) _ e rfl
  ·rw [kG (by omega)]
   by_cases e : i = j
   ·subst e
    rw [if_pos rfl]
    exact ⟨hE.name, hE.rest, (ho4.lower (by omega)).only o5 (fun q hq e => ho4.ne g4.row (by decide) q hq e)⟩
   ·rw [if_neg e]
    have hd := g4.done j (by omega)
    exact ⟨hd.name, hd.rest, hd.cols.only o5 (fun q hq e => hd.cols.ne g4.row (by decide) q hq e)⟩
  ·rw [kG (by omega), if_neg (by omega)]
   exact g4.left j (by omega)
 ·obtain rfl : i = raws.length := by omega
  refine zc (decide_eq_false (by omega)) ?_
  refine zW (ls := xV) (xZ X Y) g.b7 (by rfl) ?_
  refine refill (vs := zY X Y) g.b2 (by rfl) (qk _ _) (by rfl) ?_
  intro w2 hb2 hx2 hk2 hz2
  have he2 := hx2 w0 g.ext h2
  refine zW (ls := xV) (xZ X Y) hb2 (by rfl) ?_
  have o : Only (fun k => k = r2) w1 w2 := ⟨he2.os.trans g.ext.os.symm, he2.tape.trans g.ext.tape.symm, he2.output.trans g.ext.output.symm, Nat.le_of_eq hz2.symm, fun k _ hk => hk2 k hk⟩
  have nB : ∀ {α : Type} {E : Enc α} {e : TypeId} {A : Option Addr} {n k : Nat} {xs : List α}, e ≠ 25 -> Owni E e w1 w0.heap.size A n k xs -> Owni E e w2 w0.heap.size A n k xs := fun hne ho => ho.only o (fun j hj e => Owni.neB ho g.b2 hne j hj e)
  refine hK w2 ⟨⟨raws', nB (by decide) g.row, by omega, fun j hj => ?_⟩, nB (by decide) g.snps⟩ he2
  have hd := g.done j (by omega)
  exact ⟨hd.name, hd.rest, nB (by decide) hd.cols⟩
theorem zfH {x y : SLC} {c : Cat} (h : qA w x y c) (hlt : zjC c) :
  Calls Tryz.prog 21 #[.agg (zY x y).toArray] w (Ret fun v w' => (∃ X Y, v = .agg (zY X Y).toArray /\ yD w' w.heap.size X Y c) /\ Ext w w') := by
 obtain ⟨⟨raws, hT⟩, hs, hcx, hcy⟩ := h
 have hl := hT.len
 have hxl := hT.sl.len
 have hyl := hs.len
 obtain ⟨hl1, hl2, hl3⟩ := id hlt
 apply znk
 unfold S21
 refine zr fun r1 w1 hb1 he1 hr1 hz1 => ?_
 have hb1 : Blk w1 r1 (zY x y) 25 := hb1
 refine zr fun r2 w2 hb2 he2 hr2 hz2 => ?_
 have hb2 : Blk w2 r2 (zY (none, 0, 0) (none, 0, 0)) 25 := hb2
 refine zK fun w3 he3 hz3 hh3 => ?_
 have hb13 := (hb1.ext he2).ext he3
 have hb23 := hb2.ext he3
 have he03 := (he1.trans he2).trans he3
 have hs03 := he03.size
 refine zE x hb13 (by rfl) (zn 1 y hb13 (by rfl) ?_)
 have fin : ∀ {w6 : World} {r7 : Nat} {A1 A2 : Option Addr} {k1 k2 : Nat} {B1 B2 : Nat}, Ext w3 w6 -> Owni yn 44 w6 B1 A1 x.2.1 k1 raws -> Owni xv 46 w6 B2 A2 y.2.1 k2 c.2 -> w.heap.size <= B1 -> w.heap.size <= B2 -> Blk w6 r7 (zY (A1, x.2.1, k1) (A2, y.2.1, k2)) 25 -> zeV w w6 r2 r7 (A1, x.2.1, k1) (A2, y.2.1, k2) raws c 0 raws := fun he ho1 ho2 hB1 hB2 hb =>
  ⟨he03.trans he, hb23.ext he, hb, ho1.lower hB1, rfl, fun j hj => absurd hj (by omega), fun j _ => rfl, ho2.lower hB2⟩
 refine ⟨?_, ?_⟩
 ·refine zb (zcn (hT.sl.ext he03) (by omega)) ?_
  rintro _ w4 ⟨A1, k1, rfl, ho1, he4⟩
  refine ⟨(A1, x.2.1, k1), rfl, ?_⟩
  refine xC (yK (hb13.ext he4) rfl) ?_
  refine ⟨?_, ?_⟩
  ·refine zb (uJ (hs.ext (he03.trans he4)) (by omega)) ?_
   rintro _ w5 ⟨A2, k2, rfl, ho2, he5⟩
   refine ⟨(A2, y.2.1, k2), rfl, ?_⟩
   refine zr fun r7 w6 hb7 he6 hr7 hz7 => ?_
   have he36 := (he4.trans he5).trans he6
   have hz36 := he36.size
   have := he4.size
   have := he5.size
   refine jo (yK (hb13.ext he36) rfl) (z6 (hb13.ext he36) rfl) ?_
   refine refill (vs := zY (A1, x.2.1, k1) (A2, y.2.1, k2)) hb7 (by rfl) (qk _ _) (by rfl) ?_
   intro w7 hb77 hx7 hk7 hz77
   have he7 := hx7 w3 he36 (by omega)
   have e7 := hx7 w5 he6 (by omega)
   exact zco (K := fun v w' => (∃ X Y, v = .agg (zY X Y).toArray /\ yD w' w.heap.size X Y c) /\ Ext w w') (X := (A1, x.2.1, k1)) (Y := (A2, y.2.1, k2)) hT hxl.symm hlt (by omega) (by omega) (by omega) (fin he7 ((ho1.ext he5).ext e7) (ho2.ext e7) (by omega) (by omega) hb77) (fun w' hc he => ⟨⟨_, _, rfl, hc⟩, he⟩)
  ·refine zr fun r7 w6 hb7 he6 hr7 hz7 => ?_
   have he36 := he4.trans he6
   have := he4.size
   refine jo (yK (hb13.ext he36) rfl) (z6 (hb13.ext he36) rfl) ?_
   refine zb (uJ (hs.ext (he03.trans he36)) (by omega)) ?_
   rintro _ w5 ⟨A2, k2, rfl, ho2, he5⟩
   refine ⟨(A2, y.2.1, k2), rfl, ?_⟩
   have he35 := he36.trans he5
   have := he6.size
   refine refill (vs := zY (A1, x.2.1, k1) (A2, y.2.1, k2)) (hb7.ext he5) (by rfl) (qk _ _) (by rfl) ?_
   intro w7 hb77 hx7 hk7 hz77
   have he7 := hx7 w3 he35 (by omega)
   have e47 := hx7 w4 (he6.trans he5) (by omega)
   have o7 : Only (fun k => k = r7) w5 w7 := ⟨he7.os.trans he35.os.symm, he7.tape.trans he35.tape.symm, he7.output.trans he35.output.symm, Nat.le_of_eq hz77.symm, fun k _ hk => hk7 k hk⟩
   exact zco (K := fun v w' => (∃ X Y, v = .agg (zY X Y).toArray /\ yD w' w.heap.size X Y c) /\ Ext w w') (X := (A1, x.2.1, k1)) (Y := (A2, y.2.1, k2)) hT hxl.symm hlt (by omega) (by omega) (by omega) (fin he7 (ho1.ext e47) (ho2.only o7 (fun j hj e => by have := ho2.row j hj; have : j = r7 := e; omega)) (by omega) (by omega) hb77) (fun w' hc he => ⟨⟨_, _, rfl, hc⟩, he⟩)
 ·refine zr fun r7 w6 hb7 he6 hr7 hz7 => ?_
  refine jo (yK (hb13.ext he6) rfl) (z6 (hb13.ext he6) rfl) ?_
  refine zb (zcn (hT.sl.ext (he03.trans he6)) (by omega)) ?_
  rintro _ w4 ⟨A1, k1, rfl, ho1, he4⟩
  refine ⟨(A1, x.2.1, k1), rfl, ?_⟩
  refine xC (yK ((hb13.ext he6).ext he4) rfl) ?_
  have := he6.size
  have := he4.size
  refine zb (uJ (hs.ext ((he03.trans he6).trans he4)) (by omega)) ?_
  rintro _ w5 ⟨A2, k2, rfl, ho2, he5⟩
  refine ⟨(A2, y.2.1, k2), rfl, ?_⟩
  have he65 := he4.trans he5
  have he35 := he6.trans he65
  refine refill (vs := zY (A1, x.2.1, k1) (A2, y.2.1, k2)) (hb7.ext he65) (by rfl) (qk _ _) (by rfl) ?_
  intro w7 hb77 hx7 hk7 hz77
  have he7 := hx7 w3 he35 (by omega)
  have o7 : Only (fun k => k = r7) w5 w7 := ⟨he7.os.trans he35.os.symm, he7.tape.trans he35.tape.symm, he7.output.trans he35.output.symm, Nat.le_of_eq hz77.symm, fun k _ hk => hk7 k hk⟩
  have hlt7 := hb7.lt
  exact zco (K := fun v w' => (∃ X Y, v = .agg (zY X Y).toArray /\ yD w' w.heap.size X Y c) /\ Ext w w') (X := (A1, x.2.1, k1)) (Y := (A2, y.2.1, k2)) hT hxl.symm hlt (by omega) (by omega) (by omega) (fin he7 ((ho1.ext he5).only o7 (fun j hj e => by have := ho1.row j hj; have : j = r7 := e; omega)) (ho2.only o7 (fun j hj e => by have := ho2.row j hj; have : j = r7 := e; omega)) (by omega) (by omega) hb77) (fun w' hc he => ⟨⟨_, _, rfl, hc⟩, he⟩)
end V
/- Spaces of which nothing is owned: plain. Leaves that are dropped. -/
namespace V
open Go Go.Proofs Go.RowKit Crc
theorem zen {U : Nat -> Bool} (r : Nat -> Nat) : ∀ N : Nat, (∃ n, n < N /\ U n = true) -> ∃ n, n < N /\ U n = true /\ ∀ m, m < N -> U m = true -> r m <= r n
 | 0, ⟨n, h, _⟩ => by omega
 | N + 1, h => by
  by_cases hN : ∃ n, n < N /\ U n = true
  ·obtain ⟨n, h1, h2, h3⟩ := zen r N hN
   by_cases hu : U N = true
   ·by_cases hr : r N <= r n
    ·refine ⟨n, by omega, h2, fun m hm hum => ?_⟩
     by_cases e : m = N
     ·subst e; exact hr
     ·exact h3 m (by omega) hum
    ·refine ⟨N, by omega, hu, fun m hm hum => ?_⟩
     by_cases e : m = N
     ·subst e; exact Nat.le_refl _
     ·have := h3 m (by omega) hum; omega
   ·refine ⟨n, by omega, h2, fun m hm hum => ?_⟩
    by_cases e : m = N
    ·subst e; exact absurd hum hu
    ·exact h3 m (by omega) hum
  ·obtain ⟨n, h1, h2⟩ := h
   have e : n = N := by
    by_cases e : n < N
    ·exact absurd ⟨n, e, h2⟩ hN
    ·omega
   subst e
   refine ⟨n, by omega, h2, fun m hm hum => ?_⟩
   by_cases e : m = n
   ·subst e; exact Nat.le_refl _
   ·exact absurd ⟨m, by omega, hum⟩ hN
theorem zkF {N : Nat} {ps : List Nat} {pg : PgF} {c : List Nat} (h : zZ N ps pg c []) (n : Nat) : zI ps c n = false := by
 cases hq : zI ps c n with
 | false => rfl
 | true =>
  exfalso
  obtain ⟨r, hr⟩ := h.rank
  obtain ⟨m, m1, m2, m3⟩ := zen (U := zI ps c) r N ⟨n, h.lt hq, hq⟩
  obtain ⟨a1, a2, a3⟩ := zN.1 m2
  have hs := h.sum m a1 a2
  rw [List.count_nil, Nat.zero_add] at hs
  have : ∃ k, k < N /\ xD ps pg c m k ≠ 0 := by
   apply Classical.byContradiction
   intro hno
   have : kS N ps pg c m = 0 := by
    unfold kS
    rw [zfh (g := fun _ => 0) (fun k hk => by
     apply Classical.byContradiction
     intro hk0
     exact hno ⟨k, hk, hk0⟩)]
    exact zcc N
   omega
  obtain ⟨k, hk, hk0⟩ := this
  unfold xD at hk0
  split at hk0
  ·rename_i huk
   have hm : m ∈ yp pg k := List.count_pos_iff.1 (by omega)
   have := hr k huk m hm
   have := m3 k hk huk
   omega
  ·exact hk0 rfl
theorem zfr {N : Nat} {ps : List Nat} {pg : PgF} {c : List Nat} (h : zZ N ps pg c []) {n : Nat} (h2 : 2 <= n) (hp : n ∉ ps) : c.getD n 0 = 0 := by
 have := zkF h n
 cases hq : c.getD n 0 with
 | zero => rfl
 | succ k =>
  rw [zN.2 ⟨h2, hp, by omega⟩] at this
  cases this
theorem zjD {S : Spa} (h : Great S [] [] none) (hm : S.mark = none) : S.zV + S.sup.pages.length + 2 = S.N := by
 have hP := h.heldOK.zmV h.good
 have hN := h.good.dims.n
 have hmem : ∀ n, n ∈ S.z8 ↔ 2 <= n /\ n < S.N /\ n ∉ S.sup.pages := by
  intro n
  rw [vH]
  constructor
  ·rintro ⟨a1, a2, a3⟩
   refine ⟨a2, a1, fun e => ?_⟩
   have := (hP.at_ n e).2.2
   have := (zP.1 a3).1
   omega
  ·rintro ⟨a1, a2, a3⟩
   refine ⟨a2, a1, zP.2 ⟨zfr h.good.well a1 a3, zfr h.hwell a1 a3, by rw [hm]; rfl⟩⟩
 have hnd : (0 :: 1 :: (S.sup.pages ++ S.z8)).Nodup := by
  rw [List.nodup_cons, List.nodup_cons, List.nodup_append]
  refine ⟨?_, ?_, hP.nodup, zmw S, ?_⟩
  ·simp only [List.mem_cons, List.mem_append, not_or]
   exact ⟨by omega, fun e => by have := (hP.at_ 0 e).1; omega, fun e => by have := ((hmem 0).1 e).1; omega⟩
  ·simp only [List.mem_append, not_or]
   exact ⟨fun e => by have := (hP.at_ 1 e).1; omega, fun e => by have := ((hmem 1).1 e).1; omega⟩
  ·intro a ha b hb e
   subst e
   exact ((hmem a).1 hb).2.2 ha
 have h1 := uS hnd (b := List.range S.N) (fun x hx => by
  rw [List.mem_range]
  simp only [List.mem_cons, List.mem_append] at hx
  rcases hx with e | e | e | e
  ·omega
  ·omega
  ·exact (hP.at_ x e).2.1
  ·exact ((hmem x).1 e).2.1)
 have h2 := uS (List.nodup_range (n := S.N)) (b := 0 :: 1 :: (S.sup.pages ++ S.z8)) (fun x hx => by
  have hx := List.mem_range.1 hx
  simp only [List.mem_cons, List.mem_append]
  by_cases e : x < 2
  ·omega
  ·by_cases e2 : x ∈ S.sup.pages
   ·exact .inr (.inr (.inl e2))
   ·exact .inr (.inr (.inr ((hmem x).2 ⟨by omega, hx, e2⟩))))
 rw [List.length_range] at h1 h2
 simp only [List.length_cons, List.length_append] at h1 h2
 unfold Spa.zV
 omega
end V
/- The space that laws on catalogs begin with; what stays, whatever a space does. -/
namespace V
open Go Go.Proofs Go.RowKit Crc
def S0 : Spa := qi (zdl 256 256)
theorem zeW : zT 256 256 = true := by decide
theorem zmZ : zF 256 256 = 3 := by decide
theorem zmJ : chk (yW 256 256) = 0 := by
 have h := zop (size := 256) (N := 256) zeW
 rw [h, zmZ]
 decide
theorem zdD : Great S0 [] [] none := (uI (zfP zeW) zmJ).2.1
theorem zpu : (yv (zdl 256 256)).2 = 0 := (uI (zfP zeW) zmJ).1
theorem zkG : S0.dev.pen = [] := (uI (zfP zeW) zmJ).2.2
theorem zkH : S0.sup = yW 256 256 := rfl
theorem zoI : S0.mark = none := rfl
theorem zdE : S0.sup.pages.length = 3 := by rw [zkH]; show (xw (zF 256 256)).length = 3; rw [j8, zmZ]
theorem zcC : S0.r0 = 238 := by unfold Spa.r0 Spa.room; rw [zkH]; decide
theorem zm0 : qD 238 = 13804 := by decide
theorem zpB : S0.N = 256 := rfl
theorem zis : S0.zV = 251 := by
 have := zjD zdD zoI
 rw [zdE, zpB] at this
 omega
structure St (w0 w : World) (b db : Nat) (S : Spa) (F : Nat -> Prop) : Prop where
 sp : ya w b db S F
 low : ∀ k, F k -> w0.heap.size <= k
 ext : Ext w0 w
def Safe (F : Nat -> Prop) (w : World) (P : World -> Prop) : Prop := ∀ w', Only F w w' -> P w'
variable {w0 w w' : World} {b db : Nat} {S S' : Spa} {F F' : Nat -> Prop} {P : World -> Prop}
theorem Safe.step (h : Safe F w P) (o : Only F w w') (hF : ∀ k, F' k -> F k \/ w.heap.size <= k) : Safe F' w' P := fun w'' o2 => h w'' (Only.trans o o2 hF)
theorem Safe.mono {Q : World -> Prop} (h : Safe F w P) (hQ : ∀ w, P w -> Q w) : Safe F w Q := fun w' o => hQ _ (h w' o)
theorem St.ext' (h : St w0 w b db S F) (he : Ext w w') : St w0 w' b db S F := ⟨h.sp.ext he, h.low, h.ext.trans he⟩
theorem St.step (h : St w0 w b db S F) (hst : yx w b db F S' w') : ∃ F', St w0 w' b db S' F' /\ ∀ P : World -> Prop, Safe F w P -> Safe F' w' P := by
 obtain ⟨F', h1, h2, h3⟩ := hst
 refine ⟨F', ⟨h1, fun k hk => ?_, Only.ext h.ext h3 h.low⟩, fun P hP => hP.step h3 h2⟩
 rcases h2 k hk with e | e
 ·exact h.low k e
 ·exact Nat.le_trans h.ext.size e
theorem St.own (h : ya w b db S F) {x y : SLC} {c : Cat} (hc : yD w' w.heap.size x y c) : Safe F w' (fun w => yD w 0 x y c) := fun w2 o => (hc.only o (fun k hk => h.lt k hk)).lower (Nat.zero_le _)
theorem At.zpC (h : At w0 w b db S) : ∃ F, St w0 w b db S F := by
 obtain ⟨F, h1, h2, h3⟩ := h
 exact ⟨F, h1, h2, h3⟩
theorem zkI {w1 : World} {db : Nat} (h : zgr w0 (zdl 256 256) db w1) :
  Calls Tryz.prog 69 #[.pointer (some ⟨db, 0, none⟩)] w1 (Ret fun v w' => ∃ b, v = .tuple #[.pointer (some ⟨b, 0, none⟩), .int .i64 0] /\ ∃ F, St w0 w' b db S0 F) := by
 refine (zko h (zfP zeW) (by show ([] : List (Int × ByteArray)).length <= _; simp)).mono (Ret.mono ?_)
 rintro _ w3 (⟨hne, _⟩ | ⟨_, b, rfl, hat⟩)
 ·exact absurd zpu hne
 ·exact ⟨b, rfl, hat.zpC⟩
def strk : ByteArray := ByteArray.mk #[107]
def strv : ByteArray := ByteArray.mk #[118]
def pk : Col := (strk, 3, false)
def pv : Col := (strv, 1, true)
def zcD : List Col := [pk, pv]
theorem zhg (w : World) : Calls Tryz.prog 70 #[] w (Ret fun v w' => ∃ r, v = .slice (some ⟨r, 0, none⟩) 2 2 /\ Owni xM 62 w' w.heap.size (some ⟨r, 0, none⟩) 2 2 zcD /\ Ext w w') := by
 apply znO
 unfold S70
 refine zr fun r w1 hb he hr hz => ⟨r, rfl, j4 (E := xM) (xs := zcD) (by exact hb) rfl (by omega) (by omega), he⟩
theorem zoJ : xr zcD = 0 := by kernel_rfl
end V
/- Law 24: the space, the catalog that all begin with; the example. -/
namespace V
open Go Go.Proofs Go.RowKit Crc
theorem zhU (w : World) : Calls Tryz.prog 22 #[] w (Ret fun v w' => ∃ db b, v = .tuple #[.pointer (some ⟨db, 0, none⟩), .pointer (some ⟨b, 0, none⟩)] /\ ∃ F, St w w' b db S0 F) := by
 apply znl
 unfold S22
 refine zb (ziY w 256 256) ?_
 rintro _ w2 (⟨_, db, rfl, hd⟩ | ⟨hg, _⟩)
 ·refine ⟨(some ⟨db, 0, none⟩, 0, ()), rfl, ?_⟩
  refine zb (zkI hd) ?_
  rintro _ w3 ⟨b, rfl, F, h3⟩
  exact ⟨(some ⟨b, 0, none⟩, 0, ()), rfl, zc (by rfl) ⟨db, b, rfl, F, h3⟩⟩
 ·rw [zeW] at hg; cases hg
def strt : ByteArray := ByteArray.mk #[116]
def strs : ByteArray := ByteArray.mk #[115]
def zdF (root snap : Nat) : Cat := ([(strt, zcD, root, 5, if root = 0 then 0 else 3)], [(strs, snap)])
theorem zfs (w : World) (root snap : Nat) : Calls Tryz.prog 23 #[.int .u32 (root : Int), .int .u32 (snap : Int)] w (Ret fun v w' => (∃ x y, v = .agg (zY x y).toArray /\ yD w' w.heap.size x y (zdF root snap)) /\ Ext w w') := by
 apply znm
 unfold S23
 refine zr fun r1 w1 hb1 he1 hr1 hz1 => ?_
 have tail : ∀ (rows : Int) (n : Nat) {w2 : World}, rows = (if root = 0 then 0 else 3) -> Ext w1 w2 -> Owni xM 62 w2 w1.heap.size (some ⟨n, 0, none⟩) 2 2 zcD ->
   (zi (.cells #[(.string (ByteArray.mk #[116])), (.slice (some (aD n)) 2 2), (.int .u32 (root : Int)), (.int .u64 (5 : Int)), (.int .i64 rows)] 44) fun (r3 : Nat) =>
    zi (.cells #[(.string (ByteArray.mk #[115])), (.int .u32 (snap : Int))] 46) fun (r4 : Nat) =>
    zd ((#[(.slice (some (aD r3)) 1 1), (.slice (some (aD r4)) 1 1)] : Array Value).size = 2) <|
    zt (aD r1) [(.slice (some (aD r3)) 1 1), (.slice (some (aD r4)) 1 1)] <|
    zk [.slc, .slc] (aD r1) fun (u5 : (SLC × SLC × Unit)) => (fun w' => (∃ x y, Value.agg #[(.slice u5.1.1 u5.1.2.1 u5.1.2.2), (.slice u5.2.1.1 u5.2.1.2.1 u5.2.1.2.2)] = .agg (zY x y).toArray /\ yD w' w.heap.size x y (zdF root snap)) /\ Ext w w')) w2 := by
  intro rows n w2 hrows he2 ho
  refine zr fun r3 w3 hb3 he3 hr3 hz3 => ?_
  refine zr fun r4 w4 hb4 he4 hr4 hz4 => ?_
  have he14 := (he2.trans he3).trans he4
  have hs2 := he2.size
  refine refill (vs := zY (some ⟨r3, 0, none⟩, 1, 1) (some ⟨r4, 0, none⟩, 1, 1)) (hb1.ext he14) (by rfl) (qk _ _) (by rfl) ?_
  intro w5 hb5 hx5 hk5 hz5
  have he5 := hx5 w (he1.trans he14) (by omega)
  have hk3 : Blk w5 r3 (yn.flat [(strt, (some ⟨n, 0, none⟩, 2, 2), root, 5, rows)]) 44 := by
   have : Blk w4 r3 (yn.flat [(strt, (some ⟨n, 0, none⟩, 2, 2), root, 5, rows)]) 44 := hb3.ext he4
   exact (hk5 r3 (by omega)).trans this
  have hk4 : Blk w5 r4 (xv.flat [(strs, snap)]) 46 := (hk5 r4 (by omega)).trans hb4
  have o5 : Only (fun k => k = r1) w4 w5 := ⟨he5.os.trans (he1.trans he14).os.symm, he5.tape.trans (he1.trans he14).tape.symm, he5.output.trans (he1.trans he14).output.symm, Nat.le_of_eq hz5.symm, fun k _ hk => hk5 k hk⟩
  have hor := ho.row
  refine zW (ls := xV) (xZ (some ⟨r3, 0, none⟩, 1, 1) (some ⟨r4, 0, none⟩, 1, 1)) hb5 (by rfl) ⟨⟨_, _, rfl, ⟨[(strt, (some ⟨n, 0, none⟩, 2, 2), root, 5, rows)], j4 hk3 rfl (by show 1 <= 9223372036854775807; omega) (by omega), rfl, fun i hi => ?_⟩, j4 hk4 rfl (by show 1 <= 9223372036854775807; omega) (by omega)⟩, he5⟩
  have hi : i < 1 := hi
  obtain rfl : i = 0 := by omega
  refine ⟨rfl, ?_, ?_⟩
  ·show (root, 5, rows) = (root, 5, _)
   rw [hrows]
  ·exact (((ho.ext he3).ext he4).only o5 (fun j hj e => by have := hor j hj; have : j = r1 := e; omega)).lower (by omega)
 by_cases h0 : root = 0
 ·refine zc (bne_eq_false_iff_eq.2 (by rw [h0]; rfl)) ?_
  refine zb (zhg w1) ?_
  rintro _ w2 ⟨n, rfl, ho, he2⟩
  refine ⟨(some ⟨n, 0, none⟩, 2, 2), rfl, ?_⟩
  exact tail 0 n (by rw [if_pos h0]) he2 ho
 ·refine zf (bne_iff_ne.2 (by omega)) ?_
  refine zb (zhg w1) ?_
  rintro _ w2 ⟨n, rfl, ho, he2⟩
  refine ⟨(some ⟨n, 0, none⟩, 2, 2), rfl, ?_⟩
  exact tail 3 n (by rw [if_neg h0]) he2 ho
theorem zpf (root snap : Nat) : kg (zdF root snap) = true := by
 refine vC.2 ⟨by show 1 <= 16; omega, by show 1 <= 16; omega, fun e he => ?_, fun s hs => ?_, rfl, rfl⟩
 ·rw [List.mem_singleton.1 he]
  refine ⟨by kernel_rfl, zoJ, ?_, ?_, by show 5 < _; omega⟩
  ·show 0 <= (if root = 0 then (0 : Int) else 3) /\ (if root = 0 then (0 : Int) else 3) <= 4096
   split <;> omega
  ·show root = 0 ↔ (if root = 0 then (0 : Int) else 3) = 0
   split
   ·rename_i h; exact ⟨fun _ => rfl, fun _ => h⟩
   ·rename_i h; exact ⟨fun e => absurd e h, fun e => by omega⟩
 ·rw [List.mem_singleton.1 hs]
  kernel_rfl
theorem zoK (root snap : Nat) : (x6 (zdF root snap)).length = 27 := by
 unfold x6 zdF
 simp only [List.flatMap_cons, List.flatMap_nil, List.append_nil, qX, jq, List.length_cons, List.length_append, uf, zv, List.length_nil]
 have h1 : strt.size = 1 := by kernel_rfl
 have h2 : strs.size = 1 := by kernel_rfl
 have h3 : (xd zcD).length = 7 := by kernel_rfl
 omega
theorem zhV (w : World) : Calls Tryz.prog 9 #[] w (Ret fun v w' => v = .bool true /\ Ext w w') := by
 apply zoR
 unfold S9
 refine zb (zhU w) ?_
 rintro _ w1 ⟨db, b, rfl, F, h1⟩
 refine ⟨(some ⟨db, 0, none⟩, some ⟨b, 0, none⟩, ()), rfl, zc (by rfl) ?_⟩
 have q1 : ([] : List (Int × ByteArray)).length <= 500000 := by simp
 refine zb (zcm (x := (none, 0, 0)) (y := (none, 0, 0)) (c := za2) (R := []) (H := []) (M := none) h1.sp (fun w' o => (zei w' 0).cat) (by rfl) (by exact zdD) (by rw [zkG]; simp) (by rw [zcC]; omega) (by rw [zcC, zm0]; show 2 <= _; omega) (by
  rw [zdE, zcC, zis]; decide) (fun v hv => by cases hv)) ?_
 rintro _ w2 (⟨_, rfl, hst⟩ | ⟨hne, _⟩)
 rotate_left
 ·exact absurd rfl hne
 refine ⟨(0, 0, ()), rfl, ?_⟩
 obtain ⟨F2, h2, _⟩ := h1.step hst
 refine zb (zfs w2 0 0) ?_
 rintro _ w3 ⟨⟨x, y, rfl, hc3⟩, he3⟩
 refine ⟨xZ x y, rfl, ?_⟩
 have h3 := h2.ext' he3
 have hsafe := (St.own h2.sp hc3).mono (fun _ h => h.cat)
 have hlen := zoK 0 0
 refine zb (zcm (x := x) (y := y) (c := zdF 0 0) (R := []) (H := []) (M := none) h3.sp hsafe (zpf 0 0) (by exact zdD) (by rw [zkG]; simp) (by rw [zcC]; omega) (by rw [zcC, zm0, hlen]; omega) (by
  rw [zdE, zcC, zis, hlen]; decide) (fun v hv => by cases hv)) ?_
 rintro _ w4 (⟨hne, _⟩ | ⟨_, S', n, ls, rfl, hP, hst⟩)
 ·exact absurd hne (by unfold zdF za2; simp)
 refine ⟨((n : Int), 0, ()), rfl, ?_⟩
 obtain ⟨F4, h4, _⟩ := h3.step hst
 have hu := hP.great.good.well.root n List.mem_cons_self
 refine zb (zhd h4.sp hP.great.good hP.pg hu) ?_
 rintro _ w5 ⟨⟨x5, y5, rfl, hc5⟩, he5⟩
 refine ⟨(xZ x5 y5, 0, ()), rfl, ?_⟩
 refine yE (vs := zY x5 y5) (by rfl) (qk _ _) (fun r6 w6 hb6 he6 hr6 => ?_) (by rfl)
 refine zK fun w7 he7 hz7 hh7 => ?_
 have hn2 := (zN.1 hu).1
 have he57 := he6.trans he7
 refine zf (by rfl) (zf (by rfl) (zf (by rfl) (zf (bne_iff_ne.2 (by dsimp only; omega)) (zf (by rfl) ?_))))
 refine zW (ls := xV) (xZ x5 y5) (hb6.ext he7) (by rfl) ?_
 refine zb (zfs w7 0 0) ?_
 rintro _ w8 ⟨⟨x8, y8, rfl, hc8⟩, he8⟩
 refine ⟨xZ x8 y8, rfl, ?_⟩
 refine xC (zcu ((hb6.ext he7).ext he8)) ?_
 refine zb (zek (hc5.ext (he57.trans he8)).cat hc8.cat) ?_
 rintro _ w9 ⟨⟨v, rfl, hv⟩, he9⟩
 refine ⟨_, rfl, ?_, h4.ext.trans ((he5.trans (he57.trans he8)).trans he9)⟩
 rw [hv.2 rfl]
end V
/- Law 24: light catalogs; roots as 1; CatalogBytes. -/
namespace V
open Go Go.Proofs Go.RowKit Crc
variable {w w' : World}
structure zcp (c : Cat) : Prop where
 tabs : c.1.length <= 20
 snaps : c.2.length <= 20
 ents : ∀ e ∈ c.1, e.1.size <= 60 /\ jz e.2.1 = true
 snps : ∀ s ∈ c.2, s.1.size <= 60
theorem zcp.lt {c : Cat} (h : zcp c) : zjC c := by
 refine ⟨by have := h.tabs; omega, by have := h.snaps; omega, fun e he => ?_⟩
 have := zfz (h.ents e he).2
 omega
theorem zhW {x y : SLC} {c : Cat} (h : qA w x y c) : Calls Tryz.prog 10 #[.agg (zY x y).toArray] w (Ret fun v w' => (∃ b : Bool, v = .bool b /\ (b = true -> zcp c)) /\ Ext w w') := by
 obtain ⟨⟨raws, hT⟩, hs, hcx, hcy⟩ := h
 have hl := hT.len
 have hxl := hT.sl.len
 have hyl := hs.len
 have hle := hT.sl.le
 have hley := hs.le
 apply zne
 unfold S10
 refine zr fun r1 w1 hb1 he1 hr1 hz1 => ?_
 have hb1 : Blk w1 r1 (zY x y) 25 := hb1
 have no : ∀ {w2 : World}, Ext w1 w2 -> (fun v w' => (∃ b : Bool, v = Value.bool b /\ (b = true -> zcp c)) /\ Ext w w') (.bool false) w2 := fun he => ⟨⟨false, rfl, fun e => by cases e⟩, he1.trans he⟩
 refine zx (fun q w' => ∃ i : Nat, i <= raws.length /\ q = ((i : Int), ()) /\ Ext w1 w' /\ ∀ j, j < i -> (c.1.getD j zS).1.size <= 60 /\ jz (c.1.getD j zS).2.1 = true) (fun q => (raws.length - q.1).toNat) ⟨0, by omega, rfl, Ext.refl _, fun j hj => by omega⟩ ?_
 rintro _ w2 ⟨i, hi, rfl, he2, hq⟩
 dsimp only
 have hb2 := hb1.ext he2
 have he02 := he1.trans he2
 refine zE x hb2 (by rfl) ?_
 by_cases hlt : i < raws.length
 ·refine zf (decide_eq_true (by omega)) (zE x hb2 (by rfl) ?_)
  have hE := hT.at_ i (by omega)
  refine zdZ (E := yn) (fun e : Raw => e.1) yi (hT.sl.ext he02) (fun _ => rfl) rfl (by omega) (by omega) ?_
  rw [Int.toNat_natCast]
  refine zg (fun _ => no he2) (fun hn => ?_)
  have hn := of_decide_eq_false hn
  refine zE x hb2 (by rfl) ?_
  refine zfL (E := yn) 1 (fun e : Raw => e.2.1) yi (hT.sl.ext he02) (fun _ => rfl) rfl (by omega) (by omega) ?_
  rw [Int.toNat_natCast]
  refine zb (zd1 (hE.cols.ext he02)) ?_
  rintro _ w3 ⟨rfl, he3⟩
  refine ⟨_, rfl, ?_⟩
  refine zg (fun _ => no (he2.trans he3)) (fun hn2 => ?_)
  have hw : IntKind.wrap .i64 ((i : Int) + 1) = ((i + 1 : Nat) : Int) := by rw [wrap_i64 (by omega) (by omega)]; rfl
  rw [hw]
  refine ⟨⟨i + 1, by omega, rfl, he2.trans he3, fun j hj => ?_⟩, by omega⟩
  by_cases e : j = i
  ·subst e
   refine ⟨?_, by simpa using hn2⟩
   rw [<- hE.name]
   omega
  ·exact hq j (by omega)
 obtain rfl : i = raws.length := by omega
 refine zc (decide_eq_false (by omega)) ?_
 refine zx (fun q w' => ∃ i : Nat, i <= c.2.length /\ q = ((i : Int), ()) /\ Ext w1 w' /\ ∀ j, j < i -> (c.2.getD j yb).1.size <= 60) (fun q => (c.2.length - q.1).toNat) ⟨0, by omega, rfl, he2, fun j hj => by omega⟩ ?_
 rintro _ w3 ⟨i, hi, rfl, he3, hq2⟩
 dsimp only
 have hb3 := hb1.ext he3
 have he03 := he1.trans he3
 refine zn 1 y hb3 (by rfl) ?_
 by_cases hlt : i < c.2.length
 ·refine zf (decide_eq_true (by omega)) (zn 1 y hb3 (by rfl) ?_)
  refine zdZ (E := xv) (fun e : Snp => e.1) yb (hs.ext he03) (fun _ => rfl) rfl (by omega) (by omega) ?_
  rw [Int.toNat_natCast]
  refine zg (fun _ => no he3) (fun hn => ?_)
  have hn := of_decide_eq_false hn
  have hw : IntKind.wrap .i64 ((i : Int) + 1) = ((i + 1 : Nat) : Int) := by rw [wrap_i64 (by omega) (by omega)]; rfl
  rw [hw]
  refine ⟨⟨i + 1, by omega, rfl, he3, fun j hj => ?_⟩, by omega⟩
  by_cases e : j = i
  ·subst e
   omega
  ·exact hq2 j (by omega)
 obtain rfl : i = c.2.length := by omega
 refine zc (decide_eq_false (by omega)) (zE x hb3 (by rfl) ?_)
 refine zg (fun h1 => ?_) (fun _ => no he3)
 have h1 := of_decide_eq_true h1
 refine zn 1 y hb3 (by rfl) ⟨⟨_, rfl, fun h2 => ?_⟩, he03⟩
 have h2 := of_decide_eq_true h2
 refine ⟨by omega, by omega, fun e he => ?_, fun s hs => ?_⟩
 ·obtain ⟨j, hj, rfl⟩ := List.mem_iff_getElem.1 he
  have := hq j (by omega)
  rw [List.getD_eq_getElem?_getD, List.getElem?_eq_getElem hj] at this
  exact this
 ·obtain ⟨j, hj, rfl⟩ := List.mem_iff_getElem.1 hs
  have := hq2 j hj
  rw [List.getD_eq_getElem?_getD, List.getElem?_eq_getElem hj] at this
  exact this
end V
/- Catalogs' names, in order: plain. -/
namespace V
open Go Go.Proofs Go.RowKit Crc
theorem zit (a : List UInt8) : ltB a [] = false := by cases a <;> rfl
theorem ziu : ∀ a : List UInt8, ltB a a = false
 | [] => rfl
 | x :: a => by
  rw [ltB, ziu a]
  simp
theorem zft : ∀ {a b c : List UInt8}, ltB a b = true -> ltB b c = true -> ltB a c = true
 | _, [], _, h, _ => by rw [zit] at h; cases h
 | _, _ :: _, [], _, h => by rw [zit] at h; cases h
 | [], _ :: _, _ :: _, _, _ => rfl
 | x :: a, y :: b, z :: c, h1, h2 => by
  simp only [ltB, Bool.or_eq_true, Bool.and_eq_true, decide_eq_true_iff] at h1 h2 ⊢
  rcases h1 with h1 | ⟨rfl, h1⟩
  ·rcases h2 with h2 | ⟨rfl, h2⟩
   ·exact .inl (by omega)
   ·exact .inl h1
  ·rcases h2 with h2 | ⟨rfl, h2⟩
   ·exact .inl h2
   ·exact .inr ⟨rfl, zft h1 h2⟩
theorem zbm {α : Type} {f : α -> ByteArray} {x : α} : ∀ {l : List α}, yC f (x :: l) = true -> yC f l = true /\ ∀ y ∈ l, ltB (B (f x)) (B (f y)) = true
 | [], _ => ⟨rfl, fun y hy => by cases hy⟩
 | a :: r, h => by
  simp only [yC, Bool.and_eq_true] at h
  refine ⟨h.2, fun y hy => ?_⟩
  rcases List.mem_cons.1 hy with rfl | hy
  ·exact h.1
  ·exact zft h.1 ((zbm h.2).2 y hy)
theorem zhh {α : Type} {f : α -> ByteArray} {d : α} : ∀ {l : List α} {i j : Nat}, yC f l = true -> i < j -> j < l.length -> ltB (B (f (l.getD i d))) (B (f (l.getD j d))) = true
 | [], i, j, _, _, h => by simp at h
 | x :: l, 0, j + 1, h, _, hj => by
  have := (zbm h).2 (l.getD j d) (by
   have hj : j < l.length := by simpa using hj
   rw [List.getD_eq_getElem?_getD, List.getElem?_eq_getElem hj]; exact List.getElem_mem _)
  exact this
 | x :: l, i + 1, j + 1, h, hij, hj => zhh (l := l) (zbm h).1 (by omega) (by simpa using hj)
theorem zhX {α : Type} {f : α -> ByteArray} {d : α} {l : List α} (h : yC f l = true) {i : Nat} (hi : i < l.length) : yX (fun j => decide (B (f (l.getD j d)) = B (f (l.getD i d)))) l.length = i := by
 have h1 : yX (fun j => decide (B (f (l.getD j d)) = B (f (l.getD i d)))) l.length <= i := by
  apply Nat.le_of_not_lt
  intro hlt
  have := vY hlt
  simp at this
 have h2 := uT (q := fun j => decide (B (f (l.getD j d)) = B (f (l.getD i d)))) (n := l.length) (by omega)
 have h2 := of_decide_eq_true h2
 rcases Nat.lt_or_ge (yX (fun j => decide (B (f (l.getD j d)) = B (f (l.getD i d)))) l.length) i with h3 | h3
 ·have := zhh (d := d) h h3 hi
  rw [h2, ziu] at this
  cases this
 ·omega
theorem zhY {q : Nat -> Bool} {n : Nat} : yX q n < n ↔ ∃ j, j < n /\ q j = true := by
 constructor
 ·intro h
  exact ⟨_, h, uT h⟩
 ·rintro ⟨j, hj, hq⟩
  apply Nat.lt_of_not_le
  intro hle
  have := vY (q := q) (n := n) (i := j) (by omega)
  rw [hq] at this
  cases this
end V
/- Law 24: CatalogFinds. -/
namespace V
open Go Go.Proofs Go.RowKit Crc
variable {w w' : World}
theorem zoL {es : List Ent} {x : SLC} {raws : List Raw} (h : uF w x raws es) : es.length = x.2.1 := by rw [<- h.len]; exact h.sl.len
theorem zhi (w : World) {x y : SLC} {c : Cat} (h : qA w x y c) (s : ByteArray) :
  Calls Tryz.prog 5 #[.agg (zY x y).toArray, .string s] w (Ret fun v w' => v = .bool true /\ Ext w w') := by
 have hxl : c.1.length = x.2.1 := by obtain ⟨⟨raws, hT⟩, _⟩ := h; exact zoL hT
 have hyl : c.2.length = y.2.1 := h.2.1.len
 apply zoQ
 unfold S5
 refine zr fun r1 w1 hb1 he1 hr1 hz1 => ?_
 have hb1 : Blk w1 r1 (zY x y) 25 := hb1
 refine zb (zhV w1) ?_
 rintro _ w2 ⟨rfl, he2⟩
 refine ⟨_, rfl, zc (by rfl) ?_⟩
 have he02 := he1.trans he2
 refine zW (ls := xV) (xZ x y) (hb1.ext he2) (by rfl) ?_
 refine zb (zhW (h.ext he02)) ?_
 rintro _ w3 ⟨⟨lb, rfl, hlb⟩, he3⟩
 refine ⟨_, rfl, ?_⟩
 have he03 := he02.trans he3
 refine zg (fun _ => ⟨rfl, he03⟩) (fun hl => ?_)
 have hL : zcp c := hlb (by simpa using hl)
 refine zg (fun _ => ⟨rfl, he03⟩) (fun hs => ?_)
 have hs := of_decide_eq_false hs
 have hb3 := (hb1.ext he2).ext he3
 refine zW (ls := xV) (xZ x y) hb3 (by rfl) ?_
 refine zb (jT (h.ext he03)) ?_
 rintro _ w4 ⟨rfl, he4⟩
 refine ⟨_, rfl, ?_⟩
 have he04 := he03.trans he4
 have hb4 := hb3.ext he4
 refine zg (fun _ => ⟨rfl, he04⟩) (fun hc => ?_)
 have hk : kg c = true := by
  have hc := bne_eq_false_iff_eq.1 hc
  cases hq : kg c with
  | true => rfl
  | false => rw [hq] at hc; cases hc
 have hIs := vC.1 hk
 have ht16 := hIs.tabs
 have hs16 := hIs.snaps
 refine zx (fun q w' => ∃ i : Nat, i <= c.1.length /\ q = (decide (∃ j, j < i /\ B (c.1.getD j zS).1 = B s), (i : Int), ()) /\ Ext w4 w') (fun q => (c.1.length - q.2.1).toNat) ⟨0, by omega, by rw [decide_eq_false (by rintro ⟨j, hj, _⟩; omega)]; rfl, Ext.refl _⟩ ?_
 rintro _ w5 ⟨i, hi, rfl, he5⟩
 dsimp only
 have he05 := he04.trans he5
 have hb5 := hb4.ext he5
 refine zE x hb5 (by rfl) ?_
 by_cases hlt : i < c.1.length
 ·refine zf (decide_eq_true (by omega)) ?_
  refine zK fun w6 he6 hz6 hh6 => ?_
  have he06 := he05.trans he6
  have hb6 := hb5.ext he6
  refine zW (ls := xV) (xZ x y) hb6 (by rfl) (zE x hb6 (by rfl) ?_)
  have h6 := h.ext he06
  obtain ⟨⟨raws, hT⟩, _⟩ := id h6
  have hE := hT.at_ i hlt
  refine zdZ (E := yn) (fun e : Raw => e.1) yi hT.sl (fun _ => rfl) rfl (by omega) (by omega) ?_
  rw [Int.toNat_natCast, hE.name]
  refine zb (zbz h6 (c.1.getD i zS).1) ?_
  rintro _ w7 ⟨rfl, he7⟩
  have hf : kY c (c.1.getD i zS).1 = ((i : Int), 0) := by
   have : v8 c (c.1.getD i zS).1 = i := zhX (f := fun e : Ent => e.1) (d := zS) hIs.rt hlt
   unfold kY
   rw [this, if_pos hlt]
  rw [hf]
  refine ⟨((i : Int), 0, ()), rfl, zc (by rfl) (zc (bne_eq_false_iff_eq.2 rfl) ?_)⟩
  have hw : IntKind.wrap .i64 ((i : Int) + 1) = ((i + 1 : Nat) : Int) := by rw [wrap_i64 (by omega) (by omega)]; rfl
  rw [hw]
  have he57 := he6.trans he7
  refine zg (fun hq => ?_) (fun hq => ?_)
  ·have hq := of_decide_eq_true hq
   obtain ⟨j, hj, e⟩ := hq
   refine ⟨⟨i + 1, by omega, by rw [decide_eq_true ⟨j, by omega, e⟩], he5.trans he57⟩, by omega⟩
  ·have hq := of_decide_eq_false hq
   refine zE x (hb6.ext he7) (by rfl) ?_
   refine zdZ (E := yn) (fun e : Raw => e.1) yi (hT.sl.ext he7) (fun _ => rfl) rfl (by omega) (by omega) ?_
   rw [Int.toNat_natCast, hE.name, qV]
   refine ⟨⟨i + 1, by omega, ?_, he5.trans he57⟩, by omega⟩
   congr 1
   rw [Bool.eq_iff_iff, decide_eq_true_iff, decide_eq_true_iff]
   constructor
   ·intro e
    exact ⟨i, by omega, e⟩
   ·rintro ⟨j, hj, e⟩
    by_cases hji : j = i
    ·rw [<- hji]; exact e
    ·exact absurd ⟨j, by omega, e⟩ hq
 obtain rfl : i = c.1.length := by omega
 refine zc (decide_eq_false (by omega)) ?_
 refine zW (ls := xV) (xZ x y) hb5 (by rfl) ?_
 refine zb (zbz (h.ext he05) s) ?_
 rintro _ w6 ⟨rfl, he6⟩
 refine ⟨((kY c s).1, (kY c s).2, ()), rfl, ?_⟩
 have he06 := he05.trans he6
 have hb6 := hb5.ext he6
 refine zW (ls := xV) (xZ x y) hb6 (by rfl) ?_
 refine zb (zfH (h.ext he06) hL.lt) ?_
 rintro _ w7 ⟨⟨X, Y, rfl, hC7⟩, he7⟩
 refine ⟨xZ X Y, rfl, ?_⟩
 refine yE (vs := zY X Y) (by rfl) (qk _ _) (fun r22 w8 hb8 he8 hr8 => ?_) (by rfl)
 have he68 := he7.trans he8
 have he08 := he06.trans he68
 have hC8 := hC7.ext he8
 have hb18 := hb6.ext he68
 refine zW (ls := xV) (xZ X Y) hb8 (by rfl) (zW (ls := xV) (xZ x y) hb18 (by rfl) ?_)
 refine zb (zek hC8.cat (h.ext he08)) ?_
 rintro _ w9 ⟨⟨v, rfl, hv⟩, he9⟩
 refine ⟨_, rfl, zc (by rw [hv.2 rfl]; rfl) ?_⟩
 have he09 := he08.trans he9
 have hs6 := he06.size
 have hs1 := he1.size
 obtain ⟨⟨raws, hT9⟩, hS9⟩ := hC8.ext he9
 have hXl : raws.length = X.2.1 := hT9.row.len
 have hYl : c.2.length = Y.2.1 := hS9.len
 have hrl := hT9.len
 refine zx (fun q w' => ∃ (i : Nat) (raws' : List Raw), i <= raws.length /\ q = ((i : Int), ()) /\ Ext w6 w' /\ Blk w' r22 (zY X Y) 25 /\ raws'.length = raws.length /\ Owni yn 44 w' w6.heap.size X.1 X.2.1 X.2.2 raws' /\ Owni xv 46 w' w6.heap.size Y.1 Y.2.1 Y.2.2 c.2) (fun q => (raws.length - q.1).toNat) ⟨0, raws, by omega, rfl, he68.trans he9, hb8.ext he9, rfl, hT9.row, hS9⟩ ?_
 rintro _ w10 ⟨i, raws', hi, rfl, he10, q1, q2, q3, q4⟩
 dsimp only
 refine zE X q1 (by rfl) ?_
 by_cases hlt : i < raws.length
 ·refine zf (decide_eq_true (by omega)) ?_
  refine zK fun w11 he11 hz11 hh11 => ?_
  have p1 := q1.ext he11
  have p3 := q3.ext he11
  have p4 := q4.ext he11
  refine zE X p1 (by rfl) (zE X p1 (by rfl) ?_)
  refine zJ ⟨by omega, by omega⟩ ?_
  obtain ⟨a, hA, _⟩ := p3.sl.2.2 (by omega)
  refine ⟨a, hA, ?_⟩
  show stW (a.add (i * 5)) _ _ w11
  have hadr : a.add (i * 5) = ((adr X.1).add (i * 5)).add 0 := by rw [hA, add_zero]; rfl
  have eg : raws'[i]? = some (raws'.getD i yi) := by rw [List.getD_eq_getElem?_getD, List.getElem?_eq_getElem (by omega)]; rfl
  rw [hadr]
  refine Owni.stF (x' := (ByteArray.mk #[111, 116, 104, 101, 114], (raws'.getD i yi).2)) p3 (k := 5) rfl eg (by omega) (by rfl) ?_
  intro w12 ho12 o12
  have hr3 := p3.row
  have g1 := p1.only o12 (fun e => Owni.neB p3 p1 (by decide) _ e rfl)
  have g4 := p4.only o12 (fun q hq e => p4.ne p3 (by decide) q hq e)
  have e12 : Ext w6 w12 := Only.ext (he10.trans he11) o12 (fun j hj => hr3 j hj)
  refine xC (z6 g1 rfl) ?_
  refine zJ ⟨by omega, by omega⟩ ?_
  refine ⟨a, hA, ?_⟩
  show stW ((a.add (i * 5)).add 2) _ _ w12
  have hadr2 : (a.add (i * 5)).add 2 = ((adr X.1).add (i * 5)).add 2 := by rw [hA]; rfl
  have hw : IntKind.wrap .i64 ((i : Int) + 1) = ((i + 1 : Nat) : Int) := by rw [wrap_i64 (by omega) (by omega)]; rfl
  rw [hadr2, hw]
  have eg2 : (raws'.set i (ByteArray.mk #[111, 116, 104, 101, 114], (raws'.getD i yi).2))[i]? = some (ByteArray.mk #[111, 116, 104, 101, 114], (raws'.getD i yi).2) := by rw [List.getElem?_set, if_pos rfl, if_pos (by omega)]
  refine Owni.stF (x' := (ByteArray.mk #[111, 116, 104, 101, 114], (raws'.getD i yi).2.1, 77, (raws'.getD i yi).2.2.2)) ho12 (k := 5) rfl eg2 (by omega) (by rfl) ?_
  intro w13 ho13 o13
  refine ⟨⟨i + 1, _, by omega, rfl, Only.ext e12 o13 (fun j hj => hr3 j hj), g1.only o13 (fun e => Owni.neB ho12 g1 (by decide) _ e rfl), by rw [List.length_set, List.length_set]; exact q2, ho13, g4.only o13 (fun q hq e => g4.ne ho12 (by decide) q hq e)⟩, by omega⟩
 obtain rfl : i = raws.length := by omega
 refine zc (decide_eq_false (by omega)) ?_
 refine zx (fun q w' => ∃ (i : Nat) (ss' : List Snp), i <= c.2.length /\ q = ((i : Int), ()) /\ Ext w6 w' /\ Blk w' r22 (zY X Y) 25 /\ ss'.length = c.2.length /\ Owni xv 46 w' w6.heap.size Y.1 Y.2.1 Y.2.2 ss') (fun q => (c.2.length - q.1).toNat) ⟨0, c.2, by omega, rfl, he10, q1, rfl, q4⟩ ?_
 rintro _ w11 ⟨i, ss', hi, rfl, he11, p1, p2, p3⟩
 dsimp only
 refine zn 1 Y p1 (by rfl) ?_
 by_cases hlt : i < c.2.length
 ·refine zf (decide_eq_true (by omega)) (zn 1 Y p1 (by rfl) ?_)
  refine zJ ⟨by omega, by omega⟩ ?_
  obtain ⟨a, hA, _⟩ := p3.sl.2.2 (by omega)
  refine ⟨a, hA, ?_⟩
  show stW (a.add (i * 2)) _ _ w11
  have hadr : a.add (i * 2) = ((adr Y.1).add (i * 2)).add 0 := by rw [hA, add_zero]; rfl
  have eg : ss'[i]? = some (ss'.getD i yb) := by rw [List.getD_eq_getElem?_getD, List.getElem?_eq_getElem (by omega)]; rfl
  have hw : IntKind.wrap .i64 ((i : Int) + 1) = ((i + 1 : Nat) : Int) := by rw [wrap_i64 (by omega) (by omega)]; rfl
  rw [hadr, hw]
  refine Owni.stF (x' := (ByteArray.mk #[111, 116, 104, 101, 114], (ss'.getD i yb).2)) p3 (k := 2) rfl eg (by omega) (by rfl) ?_
  intro w12 ho12 o12
  have hr3 := p3.row
  refine ⟨⟨i + 1, _, by omega, rfl, Only.ext he11 o12 (fun j hj => hr3 j hj), p1.only o12 (fun e => Owni.neB p3 p1 (by decide) _ e rfl), by rw [List.length_set]; exact p2, ho12⟩, by omega⟩
 obtain rfl : i = c.2.length := by omega
 refine zc (decide_eq_false (by omega)) ?_
 have he011 := he06.trans he11
 have hb11 := hb6.ext he11
 have chk2 : (zk [.slc, .slc] (aD r1) fun (u38 : (SLC × SLC × Unit)) =>
   ze Tryz.prog 19 [(.agg #[(.slice u38.1.1 u38.1.2.1 u38.1.2.2), (.slice u38.2.1.1 u38.2.1.2.1 u38.2.1.2.2)])] (.one (.one (.int .i64))) fun (u39 : Int) => (fun w' => Value.bool (u39 == (0 : Int)) = .bool true /\ Ext w w')) w11 := by
  refine zW (ls := xV) (xZ x y) hb11 (by rfl) ?_
  refine zb (jT (h.ext he011)) ?_
  rintro _ w12 ⟨rfl, he12⟩
  refine ⟨_, rfl, ?_, he011.trans he12⟩
  rw [if_pos hk]; rfl
 have hfq : v8 c s < c.1.length ↔ ∃ j, j < c.1.length /\ B (c.1.getD j zS).1 = B s := by
  unfold v8
  rw [zhY]
  constructor
  ·rintro ⟨j, hj, e⟩; exact ⟨j, hj, of_decide_eq_true e⟩
  ·rintro ⟨j, hj, e⟩; exact ⟨j, hj, decide_eq_true e⟩
 by_cases hq : ∃ j, j < c.1.length /\ B (c.1.getD j zS).1 = B s
 ·have e : kY c s = ((v8 c s : Int), 0) := by unfold kY; rw [if_pos (hfq.2 hq)]
  rw [e, decide_eq_true hq]
  exact zf (by rfl) (zf (by rfl) chk2)
 ·have e : kY c s = (0, 210) := by unfold kY; rw [if_neg (fun hh => hq (hfq.1 hh))]
  rw [e, decide_eq_false hq]
  exact zf (by rfl) (zc (by rfl) (zf (by rfl) (zf (by rfl) chk2)))
end V
end Go.Proofs.YtplgodmmmppmeaaGreat
