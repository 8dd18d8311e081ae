/- Texts of mine, merged (wip/tool/mergep.py): KCat5, KCat6, KCat7, KCat8, KRef24, KBlob2, KBlob3, BlobL, KPut1, KPut2, KPut3, KPut4, KPut5, KGet1, KGet2, KGet3, KGet4, KGet5, KCopy, GoodE, KSt, L, L2, CatN, KCell, KSchema3, KRChk, KShare, LRoot, LRoot2, KGet6, LSh, LeafC, KGetL, LNmP, LNames. -/
import Derived.Test.YtplgodmmmppmeaaGreatM5
import Derived.Test.YtplgodmmmppmeaaGreatM4
import Derived.Test.YtplgodmmmppmeaaGreatM3
import Derived.Test.YtplgodmmmppmeaaGreatM1
import Derived.Test.YtplgodmmmppmeaaGreatChecked
open Go.IntKind (wrap)
open Go.Proofs.Tryz (prog)
open List (mem_cons_self mem_cons_of_mem mem_cons length_cons map_map mem_append mem_append_left drop_drop mem_range mem_of_getElem? getElem_mem map_cons mem_map append_assoc nodup_cons foldl_cons length_nil append_nil length_map length_set eq_nil_of_length_eq_zero range_succ map_congr_left length_append drop_of_length_le take_of_length_le getD_eq_getElem?_getD mem_singleton length_take length_drop take_succ_eq_append_getElem take_add_one not_mem_nil map_append take_left' length_replicate drop_left' flatMap_cons length_range getElem_range flatMap_append length_singleton)
set_option linter.unusedVariables false
set_option linter.unusedSimpArgs false
namespace Go.Proofs.YtplgodmmmppmeaaGreat
/- Contracts of the package catalog:Read. -/
namespace V
open Go Go.Proofs Go.RowKit Crc
variable {w w':World} {r:Nat} {st:Option (List UInt8)}
theorem zdF:jR prog 22 44 (.agg #[.string ByteArray.empty,.slice none 0 0,.int .u32 0,.int .u64 0,.int .i64 0]) 5 64:=⟨by kernel_rfl,by kernel_rfl,by kernel_rfl⟩
theorem zg8:jR prog 23 46 (.agg #[.string ByteArray.empty,.int .u32 0]) 2 24:=⟨by kernel_rfl,by kernel_rfl,by kernel_rfl⟩
structure xm (w:World) (B0:Nat) (r:Raw) (e:Ent):Prop where
 name:r.1=e.1
 rest:r.2.2=e.2.2
 cols:Owni x6 62 w B0 r.2.1.1 r.2.1.2.1 r.2.1.2.2 e.2.1
structure yS (w:World) (B0:Nat) (x:SLC) (raws:List Raw) (es:List Ent):Prop where
 row:Owni yu 44 w B0 x.1 x.2.1 x.2.2 raws
 len:raws.length=es.length
 at_:∀ i,i<es.length->xm w B0 (raws.getD i yl) (es.getD i yb)
def yg (w:World) (B0:Nat) (x y:SLC) (c:Cat):Prop:=(∃ raws,yS w B0 x raws c.1)/\Owni qc 46 w B0 y.1 y.2.1 y.2.2 c.2
theorem yg.cat {B0:Nat} {x y:SLC} {c:Cat} (h:yg w B0 x y c):xo w x y c:=by
 obtain⟨⟨raws,h1⟩,h2⟩:=h;exact⟨⟨raws,h1.row.sl,h1.len,fun i hi=>⟨(h1.at_ i hi).name,(h1.at_ i hi).rest,(h1.at_ i hi).cols.sl,(h1.at_ i hi).cols.le.1⟩⟩,h2.sl,h1.row.le.1,h2.le.1⟩
theorem xm.only {F:Nat->Prop} {B0:Nat} {r:Raw} {e:Ent} (h:xm w B0 r e) (o:Only F w w') (hF:∀ k,F k->k<B0):xm w' B0 r e:=
 ⟨h.name,h.rest,h.cols.only o (fun j hj hf=>by have:=h.cols.row j hj;have:=hF j hf;omega)⟩
theorem xm.ext {B0:Nat} {r:Raw} {e:Ent} (h:xm w B0 r e) (he:Ext w w'):xm w' B0 r e:=⟨h.name,h.rest,h.cols.ext he⟩
theorem xm.lower {B0 B1:Nat} {r:Raw} {e:Ent} (h:xm w B0 r e) (hB:B1<=B0):xm w B1 r e:=⟨h.name,h.rest,h.cols.lower hB⟩
theorem yS.only {F:Nat->Prop} {B0:Nat} {x:SLC} {raws:List Raw} {es:List Ent} (h:yS w B0 x raws es) (o:Only F w w') (hF:∀ k,F k->k<B0):yS w' B0 x raws es:=
 ⟨h.row.only o (fun j hj hf=>by have:=h.row.row j hj;have:=hF j hf;omega),h.len,fun i hi=>(h.at_ i hi).only o hF⟩
theorem yS.ext {B0:Nat} {x:SLC} {raws:List Raw} {es:List Ent} (h:yS w B0 x raws es) (he:Ext w w'):yS w' B0 x raws es:=⟨h.row.ext he,h.len,fun i hi=>(h.at_ i hi).ext he⟩
theorem yS.lower {B0 B1:Nat} {x:SLC} {raws:List Raw} {es:List Ent} (h:yS w B0 x raws es) (hB:B1<=B0):yS w B1 x raws es:=⟨h.row.lower hB,h.len,fun i hi=>(h.at_ i hi).lower hB⟩
theorem yg.ext {B0:Nat} {x y:SLC} {c:Cat} (h:yg w B0 x y c) (he:Ext w w'):yg w' B0 x y c:=by
 obtain⟨⟨raws,h1⟩,h2⟩:=h;exact⟨⟨raws,h1.ext he⟩,h2.ext he⟩
theorem yg.only {F:Nat->Prop} {B0:Nat} {x y:SLC} {c:Cat} (h:yg w B0 x y c) (o:Only F w w') (hF:∀ k,F k->k<B0):yg w' B0 x y c:=by
 obtain⟨⟨raws,h1⟩,h2⟩:=h;exact⟨⟨raws,h1.only o hF⟩,h2.only o (fun j hj hf=>by have:=h2.row j hj;have:=hF j hf;omega)⟩
theorem yg.lower {B0 B1:Nat} {x y:SLC} {c:Cat} (h:yg w B0 x y c) (hB:B1<=B0):yg w B1 x y c:=by
 obtain⟨⟨raws,h1⟩,h2⟩:=h;exact⟨⟨raws,h1.lower hB⟩,h2.lower hB⟩
theorem zes (w:World) (B0:Nat):yg w B0 (none,0,0) (none,0,0) vz:=⟨⟨[],Owni.nil _ _ _,rfl,fun i hi=>by cases hi⟩,Owni.nil _ _ _⟩
theorem zkL {l rr:List UInt8} {e:Ent} (h:j0 l=some (e,rr)):∃ r1 r2 x r3 y r4,nmR l=some (e.1,r1)/\xN r1=some (e.2.1,r2)/\yf 8 r2=some (x,r3)/\yf 4 r3=some (y,r4)/\jv r4=some (e.2.2.1,rr)/\e.2.2.2.1=lev x/\e.2.2.2.2=(lev y:Int):=by
 unfold j0 at h;split at h
 ·cases h
 rename_i n r1 g1;split at h
 ·cases h
 rename_i cs r2 g2;split at h
 ·cases h
 rename_i x r3 g3;split at h
 ·cases h
 rename_i y r4 g4;split at h
 ·cases h
 rename_i o r5 g5;injection h with h
 injection h with h1 h2
 subst h1 h2;exact⟨r1,r2,x,r3,y,r4,g1,g2,g3,g4,g5,rfl,rfl⟩
def sN (st:Option (List UInt8)):Option (List UInt8):=(st.bind nmR).map fun p=>p.2
def sC (st:Option (List UInt8)):Option (List UInt8):=(st.bind xN).map fun p=>p.2
def sK (n:Nat) (st:Option (List UInt8)):Option (List UInt8):=(st.bind (yf n)).map fun p=>p.2
def s1 (st:Option (List UInt8)):Option (List UInt8):=(st.bind jv).map fun p=>p.2
theorem zoC (l:List UInt8):s1 (sK 4 (sK 8 (sC (sN (some l)))))=(j0 l).map fun p=>p.2:=by
 unfold j0 sN;show s1 (sK 4 (sK 8 (sC ((nmR l).map fun p=>p.2))))=_;cases nmR l with
 |none=>rfl
 |some p1=>
  dsimp only [Option.map];show s1 (sK 4 (sK 8 ((xN p1.2).map fun p=>p.2)))=_;cases xN p1.2 with
  |none=>rfl
  |some p2=>
   dsimp only [Option.map];show s1 (sK 4 ((yf 8 p2.2).map fun p=>p.2))=_;cases yf 8 p2.2 with
   |none=>rfl
   |some p3=>
    dsimp only [Option.map];show s1 ((yf 4 p3.2).map fun p=>p.2)=_;cases yf 4 p3.2 with
    |none=>rfl
    |some p4=>
     dsimp only [Option.map];show(jv p4.2).map (fun p=>p.2)=_;cases jv p4.2 with
     |none=>rfl
     |some p5=>rfl
theorem zkM {l rr:List UInt8} {e:Snp} (h:kF l=some (e,rr)):∃ r1,nmR l=some (e.1,r1)/\jv r1=some (e.2,rr):=by
 unfold kF at h;split at h
 ·cases h
 rename_i n r1 g1;split at h
 ·cases h
 rename_i o r2 g2;injection h with h
 injection h with h1 h2
 subst h1 h2;exact⟨r1,g1,g2⟩
theorem zoD (l:List UInt8):s1 (sN (some l))=(kF l).map fun p=>p.2:=by
 unfold kF sN;show s1 ((nmR l).map fun p=>p.2)=_;cases nmR l with
 |none=>rfl
 |some p1=>
  dsimp only [Option.map];show(jv p1.2).map (fun p=>p.2)=_;cases jv p1.2 with
  |none=>rfl
  |some p5=>rfl
theorem ziG {n:Nat} {l a t:List UInt8} (h:yf n l=some (a,t)):t.length<=l.length:=by
 have:=(qb h).2;rw[<- this,length_append];omega
theorem zpa {l t:List UInt8} {s:ByteArray} (h:nmR l=some (s,t)):t.length<=l.length:=by
 rw[<- ze3 h,length_append];omega
theorem zoE {l t:List UInt8} {e:Ent} (h:j0 l=some (e,t)):t.length<=l.length:=by
 rw[<- (zmO h).1,length_append];omega
theorem zoF {l t:List UInt8} {e:Snp} (h:kF l=some (e,t)):t.length<=l.length:=by
 rw[<- (zmQ h).1,length_append];omega
def Left {α:Type} (f:List UInt8->Option (α×List UInt8)) (tot:Option (List α×List UInt8)) (j:Nat) (acc:List α) (l:List UInt8):Prop:=tot=(qJ f j l).map fun p=>(acc++p.1,p.2)
theorem Left.bad {α:Type} {f:List UInt8->Option (α×List UInt8)} {tot:Option (List α×List UInt8)} {j:Nat} {acc:List α} {l:List UInt8} (h:Left f tot (j+1) acc l) (hf:f l=none):tot=none:=by
 unfold Left qJ at h;rw[hf]at h;exact h
theorem Left.step {α:Type} {f:List UInt8->Option (α×List UInt8)} {tot:Option (List α×List UInt8)} {j:Nat} {acc:List α} {l t:List UInt8} {x:α} (h:Left f tot (j+1) acc l) (hf:f l=some (x,t)):Left f tot j (acc++[x]) t:=by
 unfold Left qJ at h;rw[hf]at h;dsimp only at h;unfold Left;rw[h];cases qJ f j t with
 |none=>rfl
 |some p=>simp
theorem Left.done {α:Type} {f:List UInt8->Option (α×List UInt8)} {tot:Option (List α×List UInt8)} {acc:List α} {l:List UInt8} (h:Left f tot 0 acc l):tot=some (acc,l):=by
 unfold Left qJ at h;rw[h];simp
theorem Left.init {α:Type} {f:List UInt8->Option (α×List UInt8)} {n:Nat} {l:List UInt8}:Left f (qJ f n l) n [] l:=by
 unfold Left;cases qJ f n l with
 |none=>rfl
 |some p=>rfl
end V
/- Contracts of the package catalog:Read. -/
namespace V
open Go Go.Proofs Go.RowKit Crc
variable {w w':World} {r:Nat} {st:Option (List UInt8)}
theorem rdnum' (h:yO w r st) {n:Nat} (hn:n<=8):Calls prog 44 #[.pointer (some ⟨r,0,none⟩),.int .i64 (n:Int)] w (Ret fun v w'=>(∃ k:Nat,v=.int .u64 (k:Int)/\(∀ p,st.bind (yf n)=some p->k=lev p.1)/\(st.bind (yf n)=none->k=0))/\zbq r w w' (sK n st)):=by
 refine(zaA h hn).mono (Ret.mono ?_);rintro v w' ⟨rfl,h⟩;exact⟨⟨_,rfl,fun p hp=>by rw[hp],fun hp=>by rw[hp]⟩,h⟩
theorem rdname' (h:yO w r st):Calls prog 45 #[.pointer (some ⟨r,0,none⟩)] w (Ret fun v w'=>(∃ s:ByteArray,v=.string s/\∀ p,st.bind nmR=some p->s=p.1)/\zbq r w w' (sN st)):=by
 refine(zg6 h).mono (Ret.mono ?_);rintro v w' ⟨rfl,h⟩;exact⟨⟨_,rfl,fun p hp=>by rw[hp]⟩,h⟩
def zaB (tot:Option (List Ent×List UInt8)) (z r1 r2 B0:Nat) (j:Nat) (w:World):Prop:=
 ∃ (x:SLC) (raws:List Raw) (st:Option (List UInt8)),Blk w r1 (zN x (none,0,0)) 25/\Owni yu 44 w B0 x.1 x.2.1 x.2.2 raws/\x.2.1+j<=255/\yO w r2 st/\
  ((st=none/\tot=none)\/∃ l acc,st=some l/\l.length<=z/\yS w B0 x raws acc/\Left j0 tot j acc l)
theorem zfB {α:Type} {l:List α} {x d:α} {i n:Nat} (hn:l.length=n):(l++[x]).getD i d=if i<n then l.getD i d else if i=n then x else d:=by
 simp only [getD_eq_getElem?_getD]
 by_cases h:i<n
 ·rw[if_pos h,List.getElem?_append_left (by omega)]
 ·rw[if_neg h,List.getElem?_append_right (by omega),hn]
  by_cases e:i=n
  ·subst e;simp
  ·rw[if_neg e,List.getElem?_eq_none (by simp;omega)];rfl
theorem yS.snoc {B0:Nat} {x:SLC} {A:Option Addr} {c:Nat} {raws:List Raw} {es:List Ent} {rw_:Raw} {e:Ent} (h:yS w B0 x raws es) (hrow:Owni yu 44 w' B0 A (x.2.1+1) c (raws++[rw_])) (hold:∀ i,i<es.length->xm w' B0 (raws.getD i yl) (es.getD i yb)) (hn:xm w' B0 rw_ e):yS w' B0 (A,x.2.1+1,c) (raws++[rw_]) (es++[e]):=by
 have hl:=h.len;refine⟨hrow,by simp[hl],fun i hi=>?_⟩;rw[zfB hl,zfB rfl]
 by_cases e1:i<es.length
 ·rw[if_pos e1,if_pos e1];exact hold i e1
 ·have:i=es.length:=by simp at hi;omega
  rw[if_neg e1,if_neg e1,if_pos this,if_pos this];exact hn
theorem xm.grown {B0:Nat} {r:Raw} {e:Ent} {A:Option Addr} {n c:Nat} {raws:List Raw} (h:xm w B0 r e) (ho:Owni yu 44 w B0 A n c raws) (hg:w.grownBy w' (orow A)):xm w' B0 r e:=
 ⟨h.name,h.rest,h.cols.grown hg (fun j hj=>ho.ne h.cols (by decide) j hj)⟩
theorem zjE {tot:Option (List Ent×List UInt8)} {z r1 r2 B0 j:Nat} {K:WP} (hz:z<=1000000) (hr1:r1<B0) (hr2:r2<B0) (h12:r1≠r2) (h:zaB tot z r1 r2 B0 (j+1) w) (hB:B0<=w.heap.size) {l0:List UInt8} (hst:yO w r2 (some l0))
  (hK:∀ w',zaB tot z r1 r2 B0 j w'->Only (fun k=>k=r1\/k=r2\/B0<=k) w w'->K w'):(zA<|
  ldW .slc (aD r1) fun(u10:SLC)=>
  ze prog 45 [.pointer (some (aD r2))] (.one (.one .str)) fun(u11:ByteArray)=>
  zq [[((aD r1),.slice u10.1 u10.2.1 u10.2.2)]]<|
  ze prog 46 [.pointer (some (aD r2))] (.one (.one .slc)) fun(u12:SLC)=>
  zq [[((aD r1),.slice u10.1 u10.2.1 u10.2.2)]]<|
  ze prog 44 [.pointer (some (aD r2)),.int .i64 8] (.one (.one (.int .u64))) fun(u13:Int)=>
  zq [[((aD r1),.slice u10.1 u10.2.1 u10.2.2)]]<|
  ze prog 44 [.pointer (some (aD r2)),.int .i64 4] (.one (.one (.int .u64))) fun(u14:Int)=>
  zq [[((aD r1),.slice u10.1 u10.2.1 u10.2.2)]]<|
  ze prog 47 [.pointer (some (aD r2))] (.one (.one (.int .u32))) fun(u15:Int)=>
  zq [[((aD r1),.slice u10.1 u10.2.1 u10.2.2)]]<|
  zh (.cells #[.string u11,.slice u12.1 u12.2.1 u12.2.2,.int .u32 u15,.int .u64 u13,.int .i64 (wrap .i64 u14)] 44) fun(r16:Nat)=>
  zq [[((aD r1),.slice u10.1 u10.2.1 u10.2.2)]]<|
  zw prog (Builtin.append_ #[22,22] 22 #[.slice u10.1 u10.2.1 u10.2.2,.slice (some (aD r16)) 1 1]) .slc fun(u17:SLC)=>
  stW (aD r1) (.slice u17.1 u17.2.1 u17.2.2) K) w:=by
 obtain⟨x,raws,st,hb,hrow,hx,hR,hcase⟩:=h;have hst':st=some l0:=by
  cases st with
  |none=>
   obtain⟨s,hs⟩:=hR;have h1:w.heap[r2]?=some _:=hs;have h2:w.heap[r2]?=some _:=hst;rw[h1]at h2;injection h2 with h2
   injection h2 with h2 _ _
   have:=congrArg (fun a=>a.toList[1]?) h2;simp at this
  |some l1=>
   have h1:w.heap[r2]?=some _:=hR;have h2:w.heap[r2]?=some _:=hst;rw[h1]at h2;injection h2 with h2
   injection h2 with h2 _ _
   have:=congrArg (fun a=>a.toList[0]?) h2;simp at this;rw[show l1=l0 from by have:=congrArg V.B this;rwa [yW,yW]at this]
 subst hst';rcases hcase with ⟨e,_⟩|⟨l,acc,e,hlz,hT,hL⟩
 ·cases e
 obtain rfl:l0=l:=by injection e
 have hxl:=hrow.len;refine zM fun w1 he1 hz1 hh1=>?_;have hb:=hb.ext he1;refine zF x hb (by rfl) ?_;have hO:∀ {a c:World},OnR r2 a c->Only (fun k=>k=r1\/k=r2\/B0<=k) a c:=fun o=>o.mono (fun k hk=>.inr (.inl hk));refine zb (rdname' (hR.ext he1)) ?_;rintro _ w2 ⟨⟨nm,rfl,hnm⟩,h2,o2⟩;refine⟨_,rfl,?_⟩;have hb:=hb.only o2 h12;refine xy (yd hb rfl) ?_;have hs2:=o2.2.2.2.1;have h2:yO w2 r2 (sN (some l0)):=h2;have hr2l:r2<w2.heap.size:=by omega
 have hle2:∀ q,sN (some l0)=some q->q.length<=z:=fun q hq=>by
  have hq:(nmR l0).map (fun p=>p.2)=some q:=hq;cases hn:nmR l0 with
  |none=>rw[hn]at hq;cases hq
  |some p=>
   rw[hn]at hq;cases hq;show p.2.length<=z;have:p.2.length<=l0.length:=zpa (s:=p.1) hn;omega
 refine zb (zg7 h2 hr2l (fun q hq=>by have:=hle2 q hq;omega)) ?_;rintro _ w3 ⟨⟨cx,rfl,hcx⟩,h3,o3⟩;refine⟨cx,rfl,?_⟩;have h3:yO w3 r2 (sC (sN (some l0))):=h3;have hb:=hb.only o3 h12;refine xy (yd hb rfl) ?_;have hs3:=o3.2.2.2.1;refine zb (rdnum' h3 (n:=8) (by omega)) ?_;rintro _ w4 ⟨⟨n8,rfl,hn8,_⟩,h4,o4⟩;refine⟨_,rfl,?_⟩;have h4:yO w4 r2 (sK 8 (sC (sN (some l0)))):=h4;have hb:=hb.only o4 h12;refine xy (yd hb rfl) ?_;have hs4:=o4.2.2.2.1;refine zb (rdnum' h4 (n:=4) (by omega)) ?_;rintro _ w5 ⟨⟨n4,rfl,hn4,_⟩,h5,o5⟩;refine⟨_,rfl,?_⟩;have h5:yO w5 r2 (sK 4 (sK 8 (sC (sN (some l0))))):=h5;have hb:=hb.only o5 h12;refine xy (yd hb rfl) ?_;have hs5:=o5.2.2.2.1;refine zb (zbK h5) ?_;rintro _ w6 ⟨⟨k,rfl,hk⟩,h6,o6⟩;refine⟨_,rfl,?_⟩;have h6:yO w6 r2 (s1 (sK 4 (sK 8 (sC (sN (some l0)))))):=h6;rw[zoC]at h6;have hb:=hb.only o6 h12;refine xy (yd hb rfl) ?_;have hs6:=o6.2.2.2.1
 -- the tables so far
 have o26:OnR r2 w2 w6:=((o3.trans o4).trans o5).trans o6;have o16:OnR r2 w w6:=(OnR.trans (Only.zB he1) o2).trans o26;have o36:OnR r2 w3 w6:=(o4.trans o5).trans o6;have hrow6:=hrow.only o16 (fun q hq e=>by have:=hrow.row q hq;have:q=r2:=e;omega);have hT6:=hT.only o16 (fun q hq=>by have:q=r2:=hq;omega);refine zr fun r16 w7 hb7 he7 hr7 hz7=>?_;have hb:=hb.ext he7;refine xy (yd hb rfl) ?_;have hxx:Sli yu w7 (some ⟨r16,0,none⟩) 1 [((nm,cx,k,n8,wrap .i64 ((n4:Nat):Int)):Raw)]:=Sli.xC (E:=yu) (xs:=[(nm,cx,k,n8,wrap .i64 ((n4:Nat):Int))]) hb7 rfl (by omega);have hs7:=he7.size;have hrow7:=hrow6.ext he7;refine xc (E:=yu) zdF hrow7 (by omega) hxx (by omega) (by omega) ?_;intro A8 c8 w8 ho8 hg8 _;have hs8:=hg8.grown.size;have hr1r:orow x.1≠some r1:=fun e=>by have:=hrow.row _ e;omega
 have hr2r:orow x.1≠some r2:=fun e=>by have:=hrow.row _ e;omega
 have hb8:Blk w8 r1 (zN x (none,0,0)) 25:=hb.grown hg8.grown (fun e=>hr1r e.symm);refine stE (o:=0) hb8 rfl (by show 0<2;omega) ?_;intro w9 hb9 o9;have o78:Only (fun q=>orow x.1=some q) w7 w8:=Only.z8 hg8.grown (fun q hq=>.inl hq);have h9:yO w9 r2 ((j0 l0).map fun p=>p.2):=((h6.ext he7).only o78 hr2r).only o9 (fun e=>h12 e.symm);have ho9:=ho8.only o9 (fun q hq e=>by have:=ho8.row q hq;have:q=r1:=e;omega);have hall:Only (fun q=>q=r1\/q=r2\/B0<=q) w w9:=by
  refine Only.trans (Only.trans (hO o16) (Only.zB (F:=fun q=>q=r1\/q=r2\/B0<=q) he7) (fun q hq=>.inl hq)) ?_ (fun q hq=>.inl hq);refine Only.trans (F:=fun q=>q=r1\/q=r2\/B0<=q) (o78.mono (fun q hq=>.inr (.inr (hrow.row q hq)))) (o9.mono (fun q hq=>.inl hq)) (fun q hq=>.inl hq)
 refine hK w9 ⟨(A8,x.2.1+1,c8),_,_,hb9,ho9,by dsimp only;omega,h9,?_⟩ hall;cases he:j0 l0 with
 |none=>exact .inl ⟨rfl,hL.bad he⟩
 |some p=>
  obtain⟨e,t⟩:=p;refine .inr ⟨t,acc++[e],rfl,by have:=zoE he;omega,?_,hL.step he⟩;obtain⟨q1,q2,y1,q3,y2,q4,g1,g2,g3,g4,g5,g6,g7⟩:=zkL he;have eN:sN (some l0)=some q1:=by show(nmR l0).map (fun p=>p.2)=_;rw[g1];rfl
  have eC:sC (sN (some l0))=some q2:=by rw[eN];show(xN q1).map (fun p=>p.2)=_;rw[g2];rfl
  have eK:sK 8 (sC (sN (some l0)))=some q3:=by rw[eC];show(yf 8 q2).map (fun p=>p.2)=_;rw[g3];rfl
  have eK4:sK 4 (sK 8 (sC (sN (some l0))))=some q4:=by rw[eK];show(yf 4 q3).map (fun p=>p.2)=_;rw[g4];rfl
  have enm:nm=e.1:=hnm (e.1,q1) g1;have en8:n8=e.2.2.2.1:=by rw[g6];exact hn8 (y1,q3) (by rw[eC];exact g3)
  have en4:n4=lev y2:=hn4 (y2,q4) (by rw[eK];exact g4);have ek:k=e.2.2.1:=by
   have:=hk (e.2.2.1,t) (by rw[eK4];exact g5);exact this
  have hy2:lev y2<4294967296:=by
   have:=jA y2;rw[(qb g4).1]at this;exact this
  have hcols:=(hcx (e.2.1,q2) (by rw[eN];exact g2));refine yS.snoc (w:=w6) hT6 ho9 (fun i hi=>?_) ⟨enm,?_,?_⟩
  ·have h1:=((hT6.at_ i hi).ext he7).grown hrow7 hg8.grown;exact h1.only o9 (fun q hq=>by have:q=r1:=hq;omega)
  ·show(k,n8,wrap .i64 ((n4:Nat):Int))=e.2.2;rw[ek,en8,en4,wrap_i64 (by omega) (by omega),<- g7]
  ·have h1:=(hcols.lower (B':=B0) (by omega)).only o36 (fun q hq e=>by have:=hcols.row q hq;have:q=r2:=e;omega);have h2:=(h1.ext he7).grown hg8.grown (fun q hq=>hrow7.ne (h1.ext he7) (by decide) q hq);exact h2.only o9 (fun q hq e=>by have:=h2.row q hq;have:q=r1:=e;omega)
end V
/- Contracts of the package catalog:Read. -/
namespace V
open Go Go.Proofs Go.RowKit Crc
variable {w w':World} {r:Nat} {st:Option (List UInt8)}
theorem yO.ze5 {l0:List UInt8} (hR:yO w r st) (hst:yO w r (some l0)):st=some l0:=by
 cases st with
 |none=>
  obtain⟨s,hs⟩:=hR;have h1:w.heap[r]?=some _:=hs;have h2:w.heap[r]?=some _:=hst;rw[h1]at h2;injection h2 with h2
  injection h2 with h2 _ _
  have:=congrArg (fun a=>a.toList[1]?) h2;simp at this
 |some l1=>
  have h1:w.heap[r]?=some _:=hR;have h2:w.heap[r]?=some _:=hst;rw[h1]at h2;injection h2 with h2
  injection h2 with h2 _ _
  have:=congrArg (fun a=>a.toList[0]?) h2;simp at this;rw[show l1=l0 from by have:=congrArg V.B this;rwa [yW,yW]at this]
theorem yS.zpb {B0:Nat} {x:SLC} {raws:List Raw} {es:List Ent} {A:Option Addr} {n c:Nat} {ss:List Snp} (h:yS w B0 x raws es) (ho:Owni qc 46 w B0 A n c ss) (hg:w.grownBy w' (orow A)):yS w' B0 x raws es:=
 ⟨h.row.grown hg (fun j hj=>ho.ne h.row (by decide) j hj),h.len,fun i hi=>⟨(h.at_ i hi).name,(h.at_ i hi).rest,(h.at_ i hi).cols.grown hg (fun j hj=>ho.ne (h.at_ i hi).cols (by decide) j hj)⟩⟩
def zaC (tot:Option (List Snp×List UInt8)) (es:List Ent) (z r1 r2 B0:Nat) (j:Nat) (w:World):Prop:=
 ∃ (x y:SLC) (ss:List Snp) (st:Option (List UInt8)),Blk w r1 (zN x y) 25/\Owni qc 46 w B0 y.1 y.2.1 y.2.2 ss/\y.2.1+j<=255/\yO w r2 st/\
  ((st=none/\tot=none)\/∃ l raws,st=some l/\l.length<=z/\yS w B0 x raws es/\Left kF tot j ss l)
theorem zjF {tot:Option (List Snp×List UInt8)} {es:List Ent} {z r1 r2 B0 j:Nat} {K:WP} (hz:z<=1000000) (hr1:r1<B0) (hr2:r2<B0) (h12:r1≠r2) (h:zaC tot es z r1 r2 B0 (j+1) w) (hB:B0<=w.heap.size) {l0:List UInt8} (hst:yO w r2 (some l0))
  (hK:∀ w',zaC tot es z r1 r2 B0 j w'->Only (fun k=>k=r1\/k=r2\/B0<=k) w w'->K w'):(zA<|
  ldW .slc ((aD r1).add 1) fun(u10:SLC)=>
  ze prog 45 [.pointer (some (aD r2))] (.one (.one .str)) fun(u11:ByteArray)=>
  zq [[((aD r1).add 1,.slice u10.1 u10.2.1 u10.2.2)]]<|
  ze prog 47 [.pointer (some (aD r2))] (.one (.one (.int .u32))) fun(u15:Int)=>
  zq [[((aD r1).add 1,.slice u10.1 u10.2.1 u10.2.2)]]<|
  zh (.cells #[.string u11,.int .u32 u15] 46) fun(r16:Nat)=>
  zq [[((aD r1).add 1,.slice u10.1 u10.2.1 u10.2.2)]]<|
  zw prog (Builtin.append_ #[23,23] 23 #[.slice u10.1 u10.2.1 u10.2.2,.slice (some (aD r16)) 1 1]) .slc fun(u17:SLC)=>
  stW ((aD r1).add 1) (.slice u17.1 u17.2.1 u17.2.2) K) w:=by
 obtain⟨x,y,ss,st,hb,hrow,hx,hR,hcase⟩:=h;obtain rfl:=hR.ze5 hst;rcases hcase with ⟨e,_⟩|⟨l,raws,e,hlz,hT,hL⟩
 ·cases e
 obtain rfl:l0=l:=by injection e
 have hxl:=hrow.len;refine zM fun w1 he1 hz1 hh1=>?_;have hb:=hb.ext he1;refine zn 1 y hb (by rfl) ?_;refine zb (rdname' (hR.ext he1)) ?_;rintro _ w2 ⟨⟨nm,rfl,hnm⟩,h2,o2⟩;refine⟨_,rfl,?_⟩;have hb:=hb.only o2 h12;refine xy (yM hb rfl) ?_;have hs2:=o2.2.2.2.1;refine zb (zbK h2) ?_;rintro _ w6 ⟨⟨k,rfl,hk⟩,h6,o6⟩;refine⟨_,rfl,?_⟩;have h6:yO w6 r2 (s1 (sN (some l0))):=h6;rw[zoD]at h6;have hb:=hb.only o6 h12;refine xy (yM hb rfl) ?_;have hs6:=o6.2.2.2.1;have o16:OnR r2 w w6:=(OnR.trans (Only.zB he1) o2).trans o6;have hrow6:=hrow.only o16 (fun q hq e=>by have:=hrow.row q hq;have:q=r2:=e;omega);have hT6:=hT.only o16 (fun q hq=>by have:q=r2:=hq;omega);refine zr fun r16 w7 hb7 he7 hr7 hz7=>?_;have hb:=hb.ext he7;refine xy (yM hb rfl) ?_;have hxx:Sli qc w7 (some ⟨r16,0,none⟩) 1 [((nm,k):Snp)]:=Sli.xC (E:=qc) (xs:=[(nm,k)]) hb7 rfl (by omega);have hs7:=he7.size;have hrow7:=hrow6.ext he7;refine xc (E:=qc) zg8 hrow7 (by omega) hxx (by omega) (by omega) ?_;intro A8 c8 w8 ho8 hg8 _;have hs8:=hg8.grown.size;have hr1r:orow y.1≠some r1:=fun e=>by have:=hrow.row _ e;omega
 have hr2r:orow y.1≠some r2:=fun e=>by have:=hrow.row _ e;omega
 have hb8:Blk w8 r1 (zN x y) 25:=hb.grown hg8.grown (fun e=>hr1r e.symm);refine stE (o:=1) hb8 (by rw[zy]) (by show 1<2;omega) ?_;intro w9 hb9 o9;have o78:Only (fun q=>orow y.1=some q) w7 w8:=Only.z8 hg8.grown (fun q hq=>.inl hq);have h9:yO w9 r2 ((kF l0).map fun p=>p.2):=((h6.ext he7).only o78 hr2r).only o9 (fun e=>h12 e.symm);have ho9:=ho8.only o9 (fun q hq e=>by have:=ho8.row q hq;have:q=r1:=e;omega);have hall:Only (fun q=>q=r1\/q=r2\/B0<=q) w w9:=by
  refine Only.trans (Only.trans (o16.mono (fun k hk=>.inr (.inl hk))) (Only.zB (F:=fun q=>q=r1\/q=r2\/B0<=q) he7) (fun q hq=>.inl hq)) ?_ (fun q hq=>.inl hq);refine Only.trans (F:=fun q=>q=r1\/q=r2\/B0<=q) (o78.mono (fun q hq=>.inr (.inr (hrow.row q hq)))) (o9.mono (fun q hq=>.inl hq)) (fun q hq=>.inl hq)
 refine hK w9 ⟨x,(A8,y.2.1+1,c8),_,_,hb9,ho9,by dsimp only;omega,h9,?_⟩ hall;cases he:kF l0 with
 |none=>exact .inl ⟨rfl,hL.bad he⟩
 |some p=>
  obtain⟨e,t⟩:=p;obtain⟨q1,g1,g5⟩:=zkM he;have eN:sN (some l0)=some q1:=by show(nmR l0).map (fun p=>p.2)=_;rw[g1];rfl
  have enm:nm=e.1:=hnm (e.1,q1) g1;have ek:k=e.2:=hk (e.2,t) (by rw[eN];exact g5);have ee:((nm,k):Snp)=e:=by rw[enm,ek]
  refine .inr ⟨t,raws,rfl,by have:=zoF he;omega,?_,by rw[ee];exact hL.step he⟩;exact((hT6.ext he7).zpb hrow7 hg8.grown).only o9 (fun q hq=>by have:q=r1:=hq;omega)
theorem zaB.rd {tot:Option (List Ent×List UInt8)} {z r1 r2 B0 j:Nat} (h:zaB tot z r1 r2 B0 j w):∃ st,yO w r2 st/\(st=none->tot=none):=by
 obtain⟨x,raws,st,hb,hrow,hx,hR,hcase⟩:=h;refine⟨st,hR,fun e=>?_⟩;rcases hcase with ⟨_,h⟩|⟨l,acc,e',_⟩
 ·exact h
 ·rw[e]at e';cases e'
theorem zaC.rd {tot:Option (List Snp×List UInt8)} {es:List Ent} {z r1 r2 B0 j:Nat} (h:zaC tot es z r1 r2 B0 j w):∃ st,yO w r2 st/\(st=none->tot=none):=by
 obtain⟨x,y,ss,st,hb,hrow,hx,hR,hcase⟩:=h;refine⟨st,hR,fun e=>?_⟩;rcases hcase with ⟨_,h⟩|⟨l,acc,e',_⟩
 ·exact h
 ·rw[e]at e';cases e'
def jJ (s:List UInt8):Option (List Ent×List UInt8):=match yf 1 s with
 |none=>none
 |some (b,r)=>qJ j0 (lev b) r
def zcu (t:Option (List Ent×List UInt8)):Option (List Snp×List UInt8):=match t with
 |none=>none
 |some (_,r)=>match yf 1 r with
  |none=>none
  |some (b,r')=>qJ kF (lev b) r'
theorem zdG (s:List UInt8):ze1 s=match jJ s with
 |none=>none
 |some (ts,r)=>match zcu (some (ts,r)) with
  |none=>none
  |some (ss,r4)=>if r4=[] then some (ts,ss) else none:=by
 unfold ze1 jJ zcu;cases yf 1 s with
 |none=>rfl
 |some p=>
  obtain⟨b,r⟩:=p;dsimp only;cases qJ j0 (lev b) r with
  |none=>rfl
  |some q=>
   obtain⟨ts,r2⟩:=q;dsimp only;cases yf 1 r2 with
   |none=>rfl
   |some q2=>rfl
end V
/- Contracts of the package catalog:Read,whole. -/
namespace V
open Go Go.Proofs Go.RowKit Crc
variable {w w':World}
theorem zkN (s:ByteArray):(s.toList==(ByteArray.mk #[]).toList)=decide (B s=[]):=by rw[qx];rfl
theorem zaB.out {tot:Option (List Ent×List UInt8)} {z r1 r2 B0 j:Nat} (h:zaB tot z r1 r2 B0 j w) (hj:(∃ st,yO w r2 st/\st=none)\/j=0):zaB tot z r1 r2 B0 0 w:=by
 obtain⟨x,raws,st,hb,hrow,hx,hR,hcase⟩:=h;rcases hj with ⟨st',h1,rfl⟩|rfl
 ·cases st with
  |none=>exact⟨x,raws,none,hb,hrow,by omega,hR,.inl ⟨rfl,by rcases hcase with ⟨_,h⟩|⟨l,acc,e',_⟩;exact h;cases e'⟩⟩
  |some l=>exact absurd (h1.ze5 hR) (by simp)
 ·exact⟨x,raws,st,hb,hrow,hx,hR,hcase⟩
theorem zaC.out {tot:Option (List Snp×List UInt8)} {es:List Ent} {z r1 r2 B0 j:Nat} (h:zaC tot es z r1 r2 B0 j w) (hj:(∃ st,yO w r2 st/\st=none)\/j=0):zaC tot es z r1 r2 B0 0 w:=by
 obtain⟨x,y,ss,st,hb,hrow,hx,hR,hcase⟩:=h;rcases hj with ⟨st',h1,rfl⟩|rfl
 ·cases st with
  |none=>exact⟨x,y,ss,none,hb,hrow,by omega,hR,.inl ⟨rfl,by rcases hcase with ⟨_,h⟩|⟨l,acc,e',_⟩;exact h;cases e'⟩⟩
  |some l=>exact absurd (h1.ze5 hR) (by simp)
 ·exact⟨x,y,ss,st,hb,hrow,hx,hR,hcase⟩
theorem kA {s:ByteArray} (hs:s.size<=1000000):Calls prog 12 #[.string s] w (Ret fun v w'=>(∃ x y,v=.tuple #[.agg (zN x y).toArray,.int .i64 (qs (B s)).2]/\yg w' w.heap.size x y (qs (B s)).1)/\Ext w w'):=by
 apply znr;unfold S12;refine zr fun r1 w1 hb1 he1 hr1 hz1=>?_;refine zr fun r2 w2 hb2 he2 hr2 hz2=>?_;have hb1:Blk w2 r1 (zN (none,0,0) (none,0,0)) 25:=hb1.ext he2;have hR2:yO w2 r2 (some (B s)):=by
  show Blk w2 r2 [.string (mkB (B s)),.int .i64 0] _;rw[zi5];exact hb2
 have he02:=he1.trans he2;have h12:r1≠r2:=by omega
 have hlen:=yj s;generalize hB0:w2.heap.size=B0 at *;have hr1B:r1<B0:=by omega
 have hr2B:r2<B0:=by omega
 have hup:∀ {w8:World},Only (fun k=>k=r1\/k=r2\/B0<=k) w2 w8->Ext w w8:=fun o=>Only.ext he02 o (fun j hj=>by rcases hj with e|e|e<;>omega)
 -- the tables
 refine yk (fun _ w'=>zaB (jJ (B s)) s.size r1 r2 B0 0 w'/\Only (fun k=>k=r1\/k=r2\/B0<=k) w2 w') ?_ (fun J3 hJ3=>?_);rotate_left
 ·refine zb (rdnum' hR2 (n:=1) (by omega)) ?_;rintro _ w3 ⟨⟨n,rfl,hn,hn0⟩,h3,o3⟩;refine⟨_,rfl,?_⟩;have h3:yO w3 r2 ((yf 1 (B s)).map fun p=>p.2):=h3;have hs3:=o3.2.2.2.1;have hI:zaB (jJ (B s)) s.size r1 r2 B0 n w3/\n<=255:=by
   cases hc:yf 1 (B s) with
   |none=>
    have:=hn0 hc;rw[hc]at h3;subst this;exact⟨⟨(none,0,0),[],none,hb1.only o3 h12,Owni.nil _ _ _,by simp,h3,.inl ⟨rfl,by unfold jJ;rw[hc]⟩⟩,by omega⟩
   |some p=>
    obtain⟨q,t⟩:=p;have e:=hn (q,t) hc;rw[hc]at h3;have hlv:lev q<256:=by
     have:=jA q;rw[(qb hc).1]at this;exact this
    dsimp only at e;refine⟨⟨(none,0,0),[],some t,hb1.only o3 h12,Owni.nil _ _ _,by dsimp only;omega,h3,.inr ⟨t,[],rfl,by have:=ziG hc;omega,⟨Owni.nil _ _ _,rfl,fun i hi=>by cases hi⟩,?_⟩⟩,by omega⟩;have:jJ (B s)=qJ j0 n t:=by unfold jJ;rw[hc,e]
    rw[this];exact Left.init
  obtain⟨hI,hn255⟩:=hI;refine zz (fun y w'=>∃ j:Nat,j<=255/\y=((j:Int),())/\zaB (jJ (B s)) s.size r1 r2 B0 j w'/\Only (fun k=>k=r1\/k=r2\/B0<=k) w2 w'/\B0<=w'.heap.size) (fun y=>y.1.toNat) ⟨n,hn255,rfl,hI,o3.mono (fun k hk=>.inr (.inl hk)),by omega⟩ ?_;rintro _ w4 ⟨j,hj,rfl,hI4,o4,hs4⟩;dsimp only;obtain⟨st,hR4,_⟩:=hI4.rd
  by_cases h0:j=0
  ·subst h0;exact zd (by rfl) (hJ3 _ _ ⟨hI4,o4⟩)
  ·refine zf (decide_eq_true (by omega)) (zs ?_);cases st with
   |none=>
    obtain⟨s',hs'⟩:=id hR4;exact zn 1 (240:Int) hs' (by rfl) (zd (by rfl) (hJ3 _ _ ⟨hI4.out (.inl ⟨none,hR4,rfl⟩),o4⟩))
   |some l=>
    have hb4:Blk w4 r2 [.string (mkB l),.int .i64 0] 92:=hR4;obtain⟨j,rfl⟩:∃ j',j=j'+1:=⟨j-1,by omega⟩;refine zn 1 (0:Int) hb4 (by rfl) (zf (by rfl) ?_);refine zjE hs hr1B hr2B h12 hI4 hs4 hR4 fun w5 hI5 o5=>?_;have ew:wrap .u64 (((j+1:Nat):Int)-1)=(j:Int):=by rw[show((j+1:Nat):Int)-1=((j:Nat):Int) by omega,zx (by omega)]
    have hs5:=o5.2.2.2.1;exact⟨⟨j,by omega,by rw[ew],hI5,Only.trans o4 o5 (fun k hk=>.inl hk),by omega⟩,by rw[ew];omega⟩
 rintro _ w3 ⟨hI,o3⟩;obtain⟨x,raws,st,hb3,hrow,hx,hR3,hcase⟩:=hI;have hs3:=o3.2.2.2.1
 -- the snapshots
 refine yk (fun _ w'=>∃ es,zaC (zcu (jJ (B s))) es s.size r1 r2 B0 0 w'/\(∀ ts t,jJ (B s)=some (ts,t)->es=ts)/\Only (fun k=>k=r1\/k=r2\/B0<=k) w2 w') ?_ (fun J18 hJ18=>?_);rotate_left
 ·refine zb (rdnum' hR3 (n:=1) (by omega)) ?_;rintro _ w4 ⟨⟨n,rfl,hn,hn0⟩,h4,o4⟩;refine⟨_,rfl,?_⟩;have hs4:=o4.2.2.2.1;have hI:∃ es,zaC (zcu (jJ (B s))) es s.size r1 r2 B0 n w4/\(∀ ts t,jJ (B s)=some (ts,t)->es=ts)/\n<=255:=by
   rcases hcase with ⟨rfl,ht⟩|⟨l,acc,rfl,hlz,hT,hL⟩
   ·have:=hn0 rfl;subst this;exact⟨[],⟨x,(none,0,0),[],none,hb3.only o4 h12,Owni.nil _ _ _,by simp,h4,.inl ⟨rfl,by rw[ht];rfl⟩⟩,fun ts t h=>(by rw[ht]at h;cases h),by omega⟩
   ·have ht:=hL.done;have h4:yO w4 r2 ((yf 1 l).map fun p=>p.2):=h4;have hT4:=hT.only o4 (fun q hq=>by have:q=r2:=hq;omega);refine⟨acc,?_⟩;cases hc:yf 1 l with
    |none=>
     have:=hn0 hc;rw[hc]at h4;subst this;exact⟨⟨x,(none,0,0),[],none,hb3.only o4 h12,Owni.nil _ _ _,by simp,h4,.inl ⟨rfl,by rw[ht];unfold zcu;dsimp only;rw[hc]⟩⟩,fun ts t h=>by rw[ht]at h;cases h;rfl,by omega⟩
    |some p=>
     obtain⟨q,t⟩:=p;have e:=hn (q,t) hc;rw[hc]at h4;have hlv:lev q<256:=by
      have:=jA q;rw[(qb hc).1]at this;exact this
     dsimp only at e;refine⟨⟨x,(none,0,0),[],some t,hb3.only o4 h12,Owni.nil _ _ _,by dsimp only;omega,h4,.inr ⟨t,raws,rfl,by have:=ziG hc;omega,hT4,?_⟩⟩,fun ts t h=>by rw[ht]at h;cases h;rfl,by omega⟩;have:zcu (jJ (B s))=qJ kF n t:=by rw[ht];unfold zcu;dsimp only;rw[hc,e]
     rw[this];exact Left.init
  obtain⟨es,hI,hes,hn255⟩:=hI;refine zz (fun y w'=>∃ j:Nat,j<=255/\y=((j:Int),())/\zaC (zcu (jJ (B s))) es s.size r1 r2 B0 j w'/\Only (fun k=>k=r1\/k=r2\/B0<=k) w2 w'/\B0<=w'.heap.size) (fun y=>y.1.toNat) ⟨n,hn255,rfl,hI,Only.trans o3 (o4.mono (fun k hk=>.inr (.inl hk))) (fun k hk=>.inl hk),by omega⟩ ?_;rintro _ w5 ⟨j,hj,rfl,hI5,o5,hs5⟩;dsimp only;obtain⟨st',hR5,_⟩:=hI5.rd
  by_cases h0:j=0
  ·subst h0;exact zd (by rfl) (hJ18 _ _ ⟨es,hI5,hes,o5⟩)
  ·refine zf (decide_eq_true (by omega)) (zs ?_);cases st' with
   |none=>
    obtain⟨s',hs'⟩:=id hR5;exact zn 1 (240:Int) hs' (by rfl) (zd (by rfl) (hJ18 _ _ ⟨es,hI5.out (.inl ⟨none,hR5,rfl⟩),hes,o5⟩))
   |some l=>
    have hb5:Blk w5 r2 [.string (mkB l),.int .i64 0] 92:=hR5;obtain⟨j,rfl⟩:∃ j',j=j'+1:=⟨j-1,by omega⟩;refine zn 1 (0:Int) hb5 (by rfl) (zf (by rfl) ?_);refine zjF hs hr1B hr2B h12 hI5 hs5 hR5 fun w6 hI6 o6=>?_;have ew:wrap .u64 (((j+1:Nat):Int)-1)=(j:Int):=by rw[show((j+1:Nat):Int)-1=((j:Nat):Int) by omega,zx (by omega)]
    have hs6:=o6.2.2.2.1;exact⟨⟨j,by omega,by rw[ew],hI6,Only.trans o5 o6 (fun k hk=>.inl hk),by omega⟩,by rw[ew];omega⟩
 rintro _ w4 ⟨es,hI,hes,o4⟩;obtain⟨x,y,ss,st,hb4,hrow,hx,hR4,hcase⟩:=hI;have he4:=hup o4;have hs4:=o4.2.2.2.1;have bad:∀ {w5:World},Blk w5 r1 (zN x y) 25->Ext w w5->qs (B s)=(vz,240)->(zc ((#[.slice none 0 0,.slice none 0 0]:Array Value).size=2)<|zt (aD r1) [.slice none 0 0,.slice none 0 0]<|zk [.slc,.slc] (aD r1) fun(u:SLC×SLC×Unit)=>fun w'=>(∃ x y,Value.tuple #[.agg #[.slice u.1.1 u.1.2.1 u.1.2.2,.slice u.2.1.1 u.2.1.2.1 u.2.1.2.2],.int .i64 240]=.tuple #[.agg (zN x y).toArray,.int .i64 (qs (B s)).2]/\yg w' w.heap.size x y (qs (B s)).1)/\Ext w w') w5:=by
  intro w5 hb5 he5 hk;refine refill (vs:=zN (none,0,0) (none,0,0)) hb5 (by rfl) (yD _ _) (by rfl) ?_;intro w6 hb6 hx6 hk6 hz6;refine zZ (ls:=xW) (yN (none,0,0) (none,0,0)) hb6 (by rfl) ?_;rw[hk];exact⟨⟨_,_,rfl,zes _ _⟩,hx6 w he5 (by omega)⟩
 refine zs ?_;rcases hcase with ⟨rfl,ht⟩|⟨l,raws',rfl,hlz,hT,hL⟩
 ·obtain⟨s',hs'⟩:=hR4;refine zn 1 (240:Int) hs' (by rfl) (zf (by rfl) ?_);refine bad hb4 he4 ?_;unfold qs;rw[zdG];cases hq:jJ (B s) with
  |none=>rfl
  |some p=>rw[hq]at ht;dsimp only;rw[ht]
 have hb42:Blk w4 r2 [.string (mkB l),.int .i64 0] 92:=hR4;refine zn 1 (0:Int) hb42 (by rfl) (zd (by rfl) (zs ?_));refine zF (mkB l) hb42 (by rfl) ?_;have ht:=hL.done;obtain⟨t0,ht0⟩:∃ t0,jJ (B s)=some (es,t0):=by
  cases hq:jJ (B s) with
  |none=>rw[hq]at ht;cases ht
  |some p=>
   obtain⟨p1,p2⟩:=p;exact⟨p2,by rw[hes p1 p2 hq]⟩
 rw[ht0]at ht;rw[zkN]
 by_cases hl:l=[]
 ·subst hl;refine zd (by rfl) ?_;refine zZ (ls:=xW) (yN x y) hb4 (by rfl) ?_;have hrd:ze1 (B s)=some (es,ss):=by
   rw[zdG,ht0];dsimp only;rw[ht];dsimp only;rw[if_pos rfl]
  have hown:yg w4 B0 x y (es,ss):=⟨⟨raws',hT⟩,hrow⟩;refine zb (jX hown.cat) ?_;rintro _ w5 ⟨rfl,he5⟩;refine⟨_,rfl,?_⟩;have hb5:=hb4.ext he5;have he05:=he4.trans he5;cases hok:ku (es,ss) with
  |false=>
   refine zf (by rfl) (bad hb5 he05 ?_);unfold qs;rw[hrd];dsimp only;rw[hok];rfl
  |true=>
   refine zd (by rfl) ?_;refine zZ (ls:=xW) (yN x y) hb5 (by rfl) ?_;refine refill (vs:=zN x y) hb5 (by rfl) (yD _ _) (by rfl) ?_;intro w6 hb6 hx6 hk6 hz6;have he6:=hx6 w he05 (by omega);refine zZ (ls:=xW) (yN x y) hb6 (by rfl) ?_;have hk:qs (B s)=((es,ss),0):=by
    unfold qs;rw[hrd];dsimp only;rw[hok];rfl
   rw[hk];refine⟨⟨x,y,rfl,((hown.ext he5).only (F:=fun k=>k=r1) ⟨he6.os.trans he05.os.symm,he6.tape.trans he05.tape.symm,he6.output.trans he05.output.symm,Nat.le_of_eq hz6.symm,fun k _ hk=>hk6 k hk⟩ (fun k hk=>by omega)).lower (by have:=he02.size;omega)⟩,he6⟩
 ·refine zf (by rw[decide_eq_false (by rw[yW];exact hl)];rfl) (bad hb4 he4 ?_);unfold qs;rw[zdG,ht0];dsimp only;rw[ht];dsimp only;rw[if_neg hl]
end V
/- Contracts of the package shadowbookref24:Same. -/
namespace V
open Go Go.Proofs Go.RowKit Crc
variable {w w':World}
def zet (a b:Snp):Bool:=decide (B a.1=B b.1)&&(((a.2:Int)==(b.2:Int))&&true)
theorem zfC {a b:Snp}:zet a b=true↔a=b:=by
 unfold zet;simp only [Bool.and_eq_true,decide_eq_true_eq,beq_iff_eq,and_true];constructor
 ·rintro⟨h1,h2⟩;exact Prod.ext (ko h1) (by omega)
 ·rintro rfl;exact⟨rfl,rfl⟩
theorem zjG (w:World) (a b:Snp):(Op.eqFields 9999 #[.string a.1,.int .u32 (a.2:Int)] #[.string b.1,.int .u32 (b.2:Int)] (prog.fieldsOf 46).toList).run prog w=.ok (zet a b) w:=by
 have hf:(prog.fieldsOf 46).toList=[(prog.fieldsOf 46).getD 0 default,(prog.fieldsOf 46).getD 1 default]:=by kernel_rfl
 rw[hf];unfold zet;rw[<- qx];refine xX (of_decide_eq_true (by kernel_rfl)) (a:=.string a.1) (b:=.string b.1) (by kernel_rfl) (by kernel_rfl) (run_equalIn_string w 9998 _ _ _ (by kernel_rfl)) ?_;refine xX (of_decide_eq_true (by kernel_rfl)) (a:=.int .u32 (a.2:Int)) (b:=.int .u32 (b.2:Int)) (by kernel_rfl) (by kernel_rfl) (run_equalIn_int w 9998 _ .u32 .u32 _ _ (by kernel_rfl)) ?_;rfl
theorem zoG (w:World) (a b:Snp) (x y:Operand):(eqS .neq 46 x y (.agg #[.string a.1,.int .u32 (a.2:Int)]) (.agg #[.string b.1,.int .u32 (b.2:Int)])).run prog w=.ok (.bool (!(zet a b))) w:=
 zeN (by kernel_rfl) (by kernel_rfl) (by kernel_rfl) (zjG w a b)
theorem jY {a:Addr} {r:Raw} (h:yV w a 0 (yu.f r)):HL w [(a.add 0,.string r.1),(a.add 1,.slice r.2.1.1 r.2.1.2.1 r.2.1.2.2),(a.add 2,.int .u32 (r.2.2.1:Int)),(a.add 3,.int .u64 (r.2.2.2.1:Int)),(a.add 4,.int .i64 r.2.2.2.2)]:=by
 obtain⟨h0,h1,h2,h3,h4,_⟩:=h;intro p hp;simp only [mem_cons,not_mem_nil,or_false]at hp;rcases hp with rfl|rfl|rfl|rfl|rfl
 ·exact h0
 ·exact h1
 ·exact h2
 ·exact h3
 ·exact h4
theorem yV.ext {a:Addr}:∀ {vs:List Value} {i:Nat},yV w a i vs->Ext w w'->yV w' a i vs
 |[],_,_,_=>trivial
 |_::_,_,h,he=>⟨he.cell h.1,yV.ext h.2 he⟩
theorem hl4 {a b c d:List (Addr×Value)} {K:WP} (ha:HL w a) (hb:HL w b) (hc:HL w c) (hd:HL w d) (hK:K w):zq [a,b,c,d] K w:=heldc ha (heldc hb (heldc hc (heldc hd (zpn hK))))
theorem znb {α:Type} {l:List α} {i:Nat} {d:α} (h:i<l.length):l.take (i+1)=l.take i++[l.getD i d]:=by
 rw[take_succ_eq_append_getElem h,getD_eq_getElem?_getD,List.getElem?_eq_getElem h];rfl
theorem zeu {x y x2 y2:SLC} {c c2:Cat} (h:xo w x y c) (h2:xo w x2 y2 c2):
  Calls prog 13 #[.agg (zN x y).toArray,.agg (zN x2 y2).toArray] w (Ret fun v w'=>(∃ b:Bool,v=.bool b/\(b=true↔c=c2))/\Ext w w'):=by
 obtain⟨⟨ra,hA⟩,sA,_⟩:=h;obtain⟨⟨rb,hB⟩,sB,_⟩:=h2;have a1:=hA.sl.len;have a2:=hA.len;have a3:=sA.len;have a4:=hA.sl.le;have a5:=sA.le;have b1:=hB.sl.len;have b2:=hB.len;have b3:=sB.len;apply zns;unfold S13;refine zr fun r1 w1 hb1 he1 hr1 hz1=>?_;refine zr fun r2 w2 hb2 he2 hr2 hz2=>?_;have hb1:Blk w2 r1 (zN x y) 25:=hb1.ext he2;have hb2:Blk w2 r2 (zN x2 y2) 25:=hb2;have he02:=he1.trans he2;have no:∀ {w5:World},Ext w w5->c≠c2->(fun v w'=>(∃ b:Bool,v=Value.bool b/\(b=true↔c=c2))/\Ext w w') (Value.bool false) w5:=fun he hne=>⟨⟨false,rfl,by simp[hne]⟩,he⟩;refine zF x hb1 (by rfl) (zF x2 hb2 (by rfl) ?_)
 by_cases hl:x.2.1=x2.2.1
 ·refine zd (bne_eq_false_iff_eq.2 (by omega)) ?_;refine zn 1 y hb1 (by rfl) (zn 1 y2 hb2 (by rfl) ?_)
  by_cases hl2:y.2.1=y2.2.1
  ·refine zd (bne_eq_false_iff_eq.2 (by omega)) ?_;refine zz (fun t w'=>∃ i:Nat,i<=x.2.1/\t=((i:Int),())/\Ext w2 w'/\c.1.take i=c2.1.take i) (fun t=>(x.2.1-t.1).toNat) ⟨0,by omega,rfl,Ext.refl _,rfl⟩ ?_;rintro _ w3 ⟨i,hi,rfl,he3,ht⟩;dsimp only;have hb13:=hb1.ext he3;have hb23:=hb2.ext he3;have he03:=he02.trans he3;refine zF x hb13 (by rfl) ?_
   by_cases hlt:i<x.2.1
   ·refine zf (decide_eq_true (by omega)) ?_;refine zM fun w4 he4 hz4 hh4=>?_;have hb14:=hb13.ext he4;have hb24:=hb23.ext he4;have he04:=he03.trans he4;have ga:ra[i]?=some (ra.getD i yl):=by rw[getD_eq_getElem?_getD,List.getElem?_eq_getElem (by omega)];rfl
    have gb:rb[i]?=some (rb.getD i yl):=by rw[getD_eq_getElem?_getD,List.getElem?_eq_getElem (by omega)];rfl
    have eA:=(hA.at_ i (by omega)).ext he04;have eB:=(hB.at_ i (by omega)).ext he04;have tA:c.1.take (i+1)=c.1.take i++[c.1.getD i yb]:=znb (by omega);have tB:c2.1.take (i+1)=c2.1.take i++[c2.1.getD i yb]:=znb (by omega);have hne:c.1.getD i yb≠c2.1.getD i yb->c≠c2:=fun h e=>h (by rw[e]);generalize ra.getD i yl=p at *;generalize rb.getD i yl=q at *;generalize c.1.getD i yb=ea at *;generalize c2.1.getD i yb=eb at *;refine zF x hb14 (by rfl) ?_;refine xT (hA.sl.ext he04) (by omega) (x:=p) (by rw[Int.toNat_natCast];exact ga) rfl ?_;intro pa hpa hca;refine qp (ls:=zeo) (x:=zaw p) hca ?_;refine zF x2 hb24 (by rfl) ?_;refine xT (hB.sl.ext he04) (by omega) (x:=q) (by rw[Int.toNat_natCast];exact gb) rfl ?_;intro pb hpb hcb;refine qp (ls:=zeo) (x:=zaw q) hcb ?_;have hw:wrap .i64 ((i:Int)+1)=((i+1:Nat):Int):=by rw[wrap_i64 (by omega) (by omega)];rfl
    rw[hw];refine⟨?a,?b⟩
    case' a=>
     refine zr fun rX w5 hX he5 hr5 hz5=>?_;refine hl4 (jY (hcb.ext he5)) (yd (hb24.ext he5) rfl) (jY (hca.ext he5)) (yd (hb14.ext he5) rfl) ?_;refine zr fun rY w6 hY he6 hr6 hz6=>?_;have he56:=he5.trans he6;refine hl4 (jY (hcb.ext he56)) (yd (hb24.ext he56) rfl) (jY (hca.ext he56)) (yd (hb14.ext he56) rfl) ?_;have hX:=hX.ext he6
    case' b=>
     refine zr fun rY w5 hY he5 hr5 hz5=>?_;refine hl4 (jY (hcb.ext he5)) (yd (hb24.ext he5) rfl) (jY (hca.ext he5)) (yd (hb14.ext he5) rfl) ?_;refine zr fun rX w6 hX he6 hr6 hz6=>?_;have he56:=he5.trans he6;refine hl4 (jY (hcb.ext he56)) (yd (hb24.ext he56) rfl) (jY (hca.ext he56)) (yd (hb14.ext he56) rfl) ?_;have hY:=hY.ext he6
    all_goals
     have he06:=he04.trans he56;have hs04:=he04.size;refine refill (vs:=yu.f p) hX (by rfl) (yu.one _) (by rfl) ?_;intro w7 hX7 hx7 hk7 hz7;have he7:Ext w4 w7:=hx7 w4 he56 (by have:=he5.size;omega);have hY7:Blk w7 rY _ _:=(hk7 rY (by omega)).trans hY;refine js (jY (hcb.ext he7)) (yd (hb24.ext he7) rfl) ?_;refine refill (vs:=yu.f q) hY7 (by rfl) (yu.one _) (by rfl) ?_;intro w8 hY8 hx8 hk8 hz8;have he8:Ext w4 w8:=hx8 w4 he7 (by have:=he5.size;omega);have hX8:Blk w8 rX (yu.f p) 44:=(hk8 rX (by omega)).trans hX7;have he08:=he04.trans he8;have q1:p.2.2.1=ea.2.2.1:=by rw[eA.rest]
     have q2:p.2.2.2.1=ea.2.2.2.1:=by rw[eA.rest]
     have q3:p.2.2.2.2=ea.2.2.2.2:=by rw[eA.rest]
     have q4:q.2.2.1=eb.2.2.1:=by rw[eB.rest]
     have q5:q.2.2.2.1=eb.2.2.2.1:=by rw[eB.rest]
     have q6:q.2.2.2.2=eb.2.2.2.2:=by rw[eB.rest]
     have q7:=eA.cols.len;have q8:=eB.cols.len;have q9:=eA.cols.le;refine zF p.1 hX8 (by rfl) (zF q.1 hY8 (by rfl) ?_);rw[eA.name,eB.name,qx];refine zg (fun hq=>no he08 (hne (fun e=>by rw[e]at hq;simp at hq))) (fun hq=>?_);have n1:ea.1=eb.1:=ko (by simpa using hq);refine zn 2 ((p.2.2.1:Nat):Int) hX8 (by rfl) (zn 2 ((q.2.2.1:Nat):Int) hY8 (by rfl) ?_);refine zg (fun hq=>no he08 (hne (fun e=>by have:=bne_iff_ne.1 hq;rw[q1,q4,e]at this;exact this rfl))) (fun hq=>?_);have n2:p.2.2.1=q.2.2.1:=by have:=bne_eq_false_iff_eq.1 hq;omega
     refine zn 3 ((p.2.2.2.1:Nat):Int) hX8 (by rfl) (zn 3 ((q.2.2.2.1:Nat):Int) hY8 (by rfl) ?_);refine zg (fun hq=>no he08 (hne (fun e=>by have:=bne_iff_ne.1 hq;rw[q2,q5,e]at this;exact this rfl))) (fun hq=>?_);have n3:p.2.2.2.1=q.2.2.2.1:=by have:=bne_eq_false_iff_eq.1 hq;omega
     refine zn 4 p.2.2.2.2 hX8 (by rfl) (zn 4 q.2.2.2.2 hY8 (by rfl) ?_);refine zg (fun hq=>no he08 (hne (fun e=>by have:=bne_iff_ne.1 hq;rw[q3,q6,e]at this;exact this rfl))) (fun hq=>?_);have n4:p.2.2.2.2=q.2.2.2.2:=bne_eq_false_iff_eq.1 hq;refine zn 1 p.2.1 hX8 (by rfl) (zn 1 q.2.1 hY8 (by rfl) ?_);refine zg (fun hq=>no he08 (hne (fun e=>by have:=bne_iff_ne.1 hq;rw[e]at q7;omega))) (fun hq=>?_);have n5:p.2.1.2.1=q.2.1.2.1:=by have:=bne_eq_false_iff_eq.1 hq;omega
     refine zz (fun t w'=>∃ j:Nat,j<=p.2.1.2.1/\t=((j:Int),())/\Ext w8 w'/\ea.2.1.take j=eb.2.1.take j) (fun t=>(p.2.1.2.1-t.1).toNat) ⟨0,by omega,rfl,Ext.refl _,rfl⟩ ?_;rintro _ w9 ⟨j,hj,rfl,he9,htj⟩;dsimp only;refine zn 1 p.2.1 (hX8.ext he9) (by rfl) ?_
     by_cases hltj:j<p.2.1.2.1
     ·refine zf (decide_eq_true (by omega)) ?_;refine zM fun w10 he10 hz10 hh10=>?_;have he910:=he9.trans he10;have he410:=he8.trans he910;refine zn 1 p.2.1 (hX8.ext he910) (by rfl) ?_;have g1:ea.2.1[j]?=some (ea.2.1[j]'(by omega)):=List.getElem?_eq_getElem (by omega);have g2:eb.2.1[j]?=some (eb.2.1[j]'(by omega)):=List.getElem?_eq_getElem (by omega);have t1:ea.2.1.take (j+1)=ea.2.1.take j++[ea.2.1[j]'(by omega)]:=take_succ_eq_append_getElem (by omega);have t2:eb.2.1.take (j+1)=eb.2.1.take j++[eb.2.1[j]'(by omega)]:=take_succ_eq_append_getElem (by omega);have hnc:ea.2.1[j]'(by omega)≠eb.2.1[j]'(by omega)->c≠c2:=fun h=>hne (fun e=>h (by
       have e2:ea.2.1=eb.2.1:=by rw[e]
       simp only [e2]))
      generalize ea.2.1[j]'(by omega)=ca at *;generalize eb.2.1[j]'(by omega)=cb at *;refine xT (eA.cols.ext he410) (by omega) (x:=ca) (by rw[Int.toNat_natCast];exact g1) rfl ?_;intro pc hpc hcc;refine qp (ls:=[.str,(.int .i64),.bool]) (x:=(ca.1,ca.2.1,ca.2.2,())) hcc ?_;refine zn 1 q.2.1 (hY8.ext he910) (by rfl) ?_;refine xT (eB.cols.ext he410) (by omega) (x:=cb) (by rw[Int.toNat_natCast];exact g2) rfl ?_;intro pd hpd hcd;refine qp (ls:=[.str,(.int .i64),.bool]) (x:=(cb.1,cb.2.1,cb.2.2,())) hcd ?_;refine⟨_,fun w'=>zoz w' ca cb _ _,?_⟩;refine zg (fun hq=>no (he08.trans he910) (hnc (fun e=>by rw[zfx.2 e]at hq;cases hq))) (fun hq=>?_);have n6:ca=cb:=zfx.1 (by simpa using hq);exact⟨⟨j+1,by omega,by rw[wrap_i64 (by omega) (by omega)];rfl,he910,by rw[t1,t2,htj,n6]⟩,by rw[wrap_i64 (by omega) (by omega)];omega⟩
     ·refine zd (decide_eq_false (by omega)) ?_;have n7:ea.2.1=eb.2.1:=by
       rw[take_of_length_le (by omega),take_of_length_le (by omega)]at htj;exact htj
      have n8:ea=eb:=Prod.ext n1 (Prod.ext n7 (by rw[<- eA.rest,<- eB.rest];exact Prod.ext n2 (Prod.ext n3 n4)));exact⟨⟨i+1,by omega,rfl,(he3.trans he4).trans (he8.trans he9),by rw[tA,tB,ht,n8]⟩,by omega⟩
   ·refine zd (decide_eq_false (by omega)) ?_;have n1:c.1=c2.1:=by
     rw[take_of_length_le (by omega),take_of_length_le (by omega)]at ht;exact ht
    refine zz (fun t w'=>∃ i:Nat,i<=y.2.1/\t=((i:Int),())/\Ext w2 w'/\c.2.take i=c2.2.take i) (fun t=>(y.2.1-t.1).toNat) ⟨0,by omega,rfl,he3,rfl⟩ ?_;rintro _ w4 ⟨j,hj,rfl,he4,htj⟩;dsimp only;refine zn 1 y (hb1.ext he4) (by rfl) ?_
    by_cases hltj:j<y.2.1
    ·refine zf (decide_eq_true (by omega)) ?_;refine zM fun w5 he5 hz5 hh5=>?_;have he25:=he4.trans he5;have he05:=he02.trans he25;have g1:c.2[j]?=some (c.2[j]'(by omega)):=List.getElem?_eq_getElem (by omega);have g2:c2.2[j]?=some (c2.2[j]'(by omega)):=List.getElem?_eq_getElem (by omega);have t1:c.2.take (j+1)=c.2.take j++[c.2[j]'(by omega)]:=take_succ_eq_append_getElem (by omega);have t2:c2.2.take (j+1)=c2.2.take j++[c2.2[j]'(by omega)]:=take_succ_eq_append_getElem (by omega);have hnc:c.2[j]'(by omega)≠c2.2[j]'(by omega)->c≠c2:=fun h e=>h (by
      have e2:c.2=c2.2:=by rw[e]
      simp only [e2])
     generalize c.2[j]'(by omega)=ca at *;generalize c2.2[j]'(by omega)=cb at *;refine zn 1 y (hb1.ext he25) (by rfl) ?_;refine xT (sA.ext he05) (by omega) (x:=ca) (by rw[Int.toNat_natCast];exact g1) rfl ?_;intro pc hpc hcc;refine qp (ls:=zf1) (x:=zdD ca) hcc ?_;refine zn 1 y2 (hb2.ext he25) (by rfl) ?_;refine xT (sB.ext he05) (by omega) (x:=cb) (by rw[Int.toNat_natCast];exact g2) rfl ?_;intro pd hpd hcd;refine qp (ls:=zf1) (x:=zdD cb) hcd ?_;refine⟨_,fun w'=>zoG w' ca cb _ _,?_⟩;refine zg (fun hq=>no he05 (hnc (fun e=>by rw[zfC.2 e]at hq;cases hq))) (fun hq=>?_);have n6:ca=cb:=zfC.1 (by simpa using hq);exact⟨⟨j+1,by omega,by rw[wrap_i64 (by omega) (by omega)];rfl,he25,by rw[t1,t2,htj,n6]⟩,by rw[wrap_i64 (by omega) (by omega)];omega⟩
    ·refine zd (decide_eq_false (by omega)) ?_;have n2:c.2=c2.2:=by
      rw[take_of_length_le (by omega),take_of_length_le (by omega)]at htj;exact htj
     exact⟨⟨true,rfl,by simp[Prod.ext n1 n2]⟩,he02.trans he4⟩
  ·exact zf (bne_iff_ne.2 (by omega)) (no he02 (fun e=>hl2 (by rw[<- a3,<- b3,e])))
 ·exact zf (bne_iff_ne.2 (by omega)) (no he02 (fun e=>hl (by rw[<- a1,a2,<- b1,b2,e])))
end V
/- Contracts of the package blob:index,parts. -/
namespace V
open Go Go.Proofs Go.RowKit Crc
def qe (S:Spa) (n:Nat):Nat×List Nat×Int:=
 if (S.get n).2≠0 then (0,[],(S.get n).2)
 else if (S.get n).1.1≠6 then (0,[],11)
 else if (S.get n).1.2.2.size≠4 then (0,[],10)
 else if lev (B (S.get n).1.2.2)>65536\/nparts S.r0 (lev (B (S.get n).1.2.2))≠(S.get n).1.2.1.length then (0,[],10)
 else (lev (B (S.get n).1.2.2),(S.get n).1.2.1,0)
def zbr (S:Spa) (want k:Nat):Int:=if (S.get k).2=0/\((S.get k).1.1≠7\/0<(S.get k).1.2.1.length\/(S.get k).1.2.2.size≠want) then 10 else (S.get k).2
def goS (S:Spa):Nat->List Nat->List (ByteArray×Int)
 |_,[]=>[]
 |size,k::ks=>if zbr S (min size S.r0) k≠0 then [(ByteArray.empty,zbr S (min size S.r0) k)] else ((S.get k).1.2.2,0)::goS S (size-min size S.r0) ks
def zY (S:Spa) (n:Nat):List (ByteArray×Int):=if (qe S n).2.2≠0 then [(ByteArray.empty,(qe S n).2.2)] else goS S (qe S n).1 (qe S n).2.1
def qV (l:List (ByteArray×Int)):List (List Value):=l.map fun p=>[.string p.1,.int .i64 p.2]
theorem xV (l:List (ByteArray×Int)):(qV l).length=l.length:=by simp[qV]
theorem zkO {l:List (ByteArray×Int)} {i:Nat} (h:i<(qV l).length) {p:ByteArray×Int} (hp:l[i]?=some p):(qV l)[i]=[.string p.1,.int .i64 p.2]:=by
 obtain⟨h1,h2⟩:=List.getElem?_eq_some_iff.1 hp;simp[qV,h2]
variable {w w':World} {b db:Nat} {S:Spa} {F Fd:Nat->Prop} {x:SLC} {hb hr nb nr:Nat} {m:MkL}
theorem zdH {n:Nat} (h:(S.get n).2=0):(S.get n).1.2.1.length<=1024/\∀ k∈(S.get n).1.2.1,2<=k/\k<S.N:=by
 unfold Spa.get at h ⊢;split
 ·rename_i hq;rw[if_pos hq]at h;cases h
 ·rename_i hq;rw[if_neg hq]at h;split
  ·rename_i h0;rw[if_pos h0]at h;cases h
  ·exact zec
theorem zg9 (h:SpM w b db S F Fd x hb hr nb nr m) {n:Nat} (hn:n<4294967296):
  Calls prog 170 #[.pointer (some ⟨b,0,none⟩),.int .u32 (n:Int)] w (Ret fun v w'=>∃ y:SLC,v=.tuple #[.int .i64 ((qe S n).1:Int),.slice y.1 y.2.1 y.2.2,.int .i64 (qe S n).2.2]/\Owni (zu .u32) 41 w' w.heap.size y.1 y.2.1 y.2.2 (qe S n).2.1/\Ext w w'):=by
 obtain⟨q0,q1,q2,q3⟩:=xJ h.dims;apply zlT;unfold S170 qe;refine zb (ub h hn) ?_;rintro _ w1 ⟨y,rfl,hok,he1⟩;refine⟨(pgT (S.get n).1 y,(S.get n).2,()),rfl,?_⟩;refine yn (vs:=pgV (S.get n).1 y) (by rfl) (jU _ _) (fun r2 w2 hb2 he2 hr2=>?_) (by rfl);have he:=he1.trans he2;have hok2:=hok.ext he2;dsimp only;refine zg (fun hq=>?_) (fun hq=>?_)
 ·have hq:=bne_iff_ne.1 hq;rw[if_pos hq];exact⟨(none,0,0),rfl,Owni.nil _ _ _,he⟩
 have h0:=bne_eq_false_iff_eq.1 hq;rw[if_neg (fun hh=>hh h0)];have hkl:=zdH h0;have hyn:=hok2.len;refine zF (((S.get n).1.1.toNat:Nat):Int) hb2 (by rfl) ?_;refine zg (fun hq=>?_) (fun hq=>?_)
 ·have hq:=bne_iff_ne.1 hq;rw[if_pos (by intro e;rw[e]at hq;exact hq rfl)];exact⟨(none,0,0),rfl,Owni.nil _ _ _,he⟩
 have h6:=bne_eq_false_iff_eq.1 hq;have h6':(S.get n).1.1=6:=by
  apply UInt8.toNat_inj.1;show _=6;omega
 rw[if_neg (fun hh=>hh h6')];refine zn 2 (S.get n).1.2.2 hb2 (by rfl) ?_;refine zg (fun hq=>?_) (fun hq=>?_)
 ·have hq:=bne_iff_ne.1 hq;rw[if_pos (by omega)];exact⟨(none,0,0),rfl,Owni.nil _ _ _,he⟩
 have h4:=bne_eq_false_iff_eq.1 hq;have h4':(S.get n).1.2.2.size=4:=by omega
 rw[if_neg (fun hh=>hh h4')];refine zn 2 (S.get n).1.2.2 hb2 (by rfl) ?_;refine kU (u:=.string) (e:=5) (by kernel_rfl) (by kernel_rfl) (by kernel_rfl) (by omega) ?_;intro c w3 hsl he3 hs3 hc3;refine zb (qP hsl (by dsimp only;omega)) ?_;rintro _ w4 ⟨rfl,he4⟩;refine⟨_,rfl,?_⟩;have hlv:lev (B (S.get n).1.2.2)<4294967296:=by
  have:=zkl (B (S.get n).1.2.2);unfold rd at this;have hl:(B (S.get n).1.2.2).length=4:=by rw[<- yj];exact h4'
  rw[if_neg (by omega),take_of_length_le (by omega)]at this;exact this
 generalize lev (B (S.get n).1.2.2)=z at *;have he34:=he3.trans he4;have he04:=he.trans he34;refine zb (qQ (h.ext he04) (k:=0) (by omega) (by omega)) ?_;rintro _ w5 ⟨rfl,he5⟩;refine⟨_,rfl,?_⟩;have he05:=he04.trans he5;rw[q0,wrap_i64 (x:=(z:Int)) (by omega) (by omega)];refine zM fun w6 he6 _ _=>?_;have he06:=he05.trans he6;have he26:=(he34.trans he5).trans he6;refine zg (fun hq=>?_) (fun hq=>?_)
 ·have hq:=of_decide_eq_true hq;rw[if_pos (.inl (by omega))];exact⟨(none,0,0),rfl,Owni.nil _ _ _,he06⟩
 have hz:=of_decide_eq_false hq;refine zK (by omega) ?_;refine zn (l:=.slc) 1 y (hb2.ext he26) (by rfl) ?_;have hnp:nparts S.r0 z<=65536:=by
  unfold nparts;rw[Nat.div_le_iff_le_mul_add_pred (by omega)];have:110*65536<=S.r0*65536:=Nat.mul_le_mul_right _ q1;omega
 have eM:wrap .i64 (Int.tdiv (wrap .i64 (wrap .i64 ((z:Int)+(S.r0:Int))-1)) (S.r0:Int))=(nparts S.r0 z:Int):=by
  rw[wrap_i64 (x:=(z:Int)+(S.r0:Int)) (by omega) (by omega),wrap_i64 (x:=(z:Int)+(S.r0:Int)-1) (by omega) (by omega)];rw[show(z:Int)+(S.r0:Int)-1=((z+S.r0-1:Nat):Int) by omega,show Int.tdiv ((z+S.r0-1:Nat):Int) (S.r0:Int)=(((z+S.r0-1) / S.r0:Nat):Int) from rfl];have:(z+S.r0-1) / S.r0=nparts S.r0 z:=rfl;rw[this,wrap_i64 (by omega) (by omega)]
 rw[eM];refine zg (fun hq=>?_) (fun hq=>?_)
 ·have hq:=bne_iff_ne.1 hq;rw[if_pos (.inr (by omega))];exact⟨(none,0,0),rfl,Owni.nil _ _ _,he06⟩
 have hq:=bne_eq_false_iff_eq.1 hq;rw[if_neg (by omega)];refine zM fun w7 he7 _ _=>?_;refine zn (l:=.slc) 1 y ((hb2.ext he26).ext he7) (by rfl) ?_;exact⟨y,rfl,(hok2.ext he26).ext he7,he06.trans he7⟩
def NoB (w:World) (k:Nat):Prop:=∀ o,w.heap[k]?=some o->∀ c fz,o≠.cells c 5 fz
theorem NoB.at_ {w w':World} {k:Nat} (h:NoB w k) (e:w'.heap[k]?=w.heap[k]?):NoB w' k:=fun o ho=>h o (e▸ho)
theorem ze6 {w:World} {k:Nat} {cs:List Value} {t:TypeId} (h:Blk w k cs t) (ht:t≠5):NoB w k:=fun o ho c fz e=>by
 have h':w.heap[k]?=some _:=h;rw[h']at ho;injection ho with ho
 rw[<- ho]at e;injection e with _ e2 _
 exact ht e2
theorem zoH {α:Type} {E:Enc α} {w:World} {B n c:Nat} {A:Option Addr} {xs:List α} {e:TypeId} (h:Owni E e w B A n c xs) (he:e≠5):∀ q,orow A=some q->NoB w q:=fun q hq o ho c' fz ee=>by
 rcases h.2 with ⟨hv,_⟩|⟨g,cap,cur,hv,_,hg,_⟩
 ·injection hv with hv;subst hv;cases hq
 ·injection hv with hv
  subst hv;have:g=q:=Option.some.inj hq;subst this;rw[hg]at ho;injection ho with ho
  rw[<- ho]at ee;injection ee with _ e2 _
  exact he e2
def RSp (b db:Nat) (S:Spa) (F Fd:Nat->Prop) (x:SLC) (hb hr nb nr:Nat) (m:MkL):WP:=fun w=>SpM w b db S F Fd x hb hr nb nr m
def Two (b n r1 r2:Nat):WP:=fun w=>Blk w r1 [.pointer (some ⟨b,0,none⟩)] 48/\Blk w r2 [.int .u32 (n:Int)] 41
theorem zjH {N0 l n r1 r2:Nat} {J:(Nat->Prop)->Nat->WP} {E:(Nat->Prop)->WP} {Q:Nat->Prop} {wc:World} (hn:n<4294967296) (hF0:∀ k,F k->k<N0) (hN0:N0<=wc.heap.size) (hQ1:Q r1) (hQB:∀ k,Q k->NoB wc k) (hQN:∀ k,Q k->N0<=k)
  (hJ0:J Q 0 wc) (hQc:∀ k,Q k->k<wc.heap.size) (hR0:Two b n r1 r2 wc) (hJR:∀ V i w',J V i w'->RSp b db S F Fd x hb hr nb nr m w')
  (hJ:∀ (V V':Nat->Prop) i w' w'',J V i w'->Only V w' w''->(∀ k,V' k->V k\/w'.heap.size<=k)->RSp b db S F Fd x hb hr nb nr m w''->J V' i w'')
  (hY:∀ (V:Nat->Prop) i w' (h:i<(qV (zY S n)).length),J V i w'->(∀ k,V k->k<w'.heap.size)->(∀ k,V k->NoB w' k)->jo prog l (qV (zY S n))[i] w' fun v w''=>w'.heap.size<=w''.heap.size/\(∀ k,V k->w''.heap[k]?=w'.heap[k]?)/\
   ((v=.bool true/\RSp b db S F Fd x hb hr nb nr m w''/\J V (i+1) w'')\/(v=.bool false/\E V w''))):
  Calls prog 169 #[.func (.yield l) #[] #[],.pointer (some ⟨r1,0,none⟩),.pointer (some ⟨r2,0,none⟩)] wc (Ret fun _ w'=>∃ V:Nat->Prop,(J V (qV (zY S n)).length w'/\(∀ k,V k->Q k\/wc.heap.size<=k)/\True)\/E V w'):=by
 obtain⟨k1,k2⟩:=hR0;have hS:=hJR _ _ _ hJ0;have hS':SpM wc b db S F Fd x hb hr nb nr m:=hS;obtain⟨q0,q1,q2,q3⟩:=xJ hS'.dims;have hRst:∀ {w1 w2:World},RSp b db S F Fd x hb hr nb nr m w1->Ext w1 w2->RSp b db S F Fd x hb hr nb nr m w2:=fun h e=>SpM.ext h e;apply zlS;unfold S169;refine zo (x:=some ⟨b,0,none⟩) k1 (by rfl) (zo (x:=(n:Int)) k2 (by rfl) ?_);refine zb (zg9 hS' hn) ?_;rintro _ w1 ⟨y,rfl,hok,he1⟩;refine⟨(((qe S n).1:Int),y,(qe S n).2.2,()),rfl,?_⟩;dsimp only
 -- a yield, whatever comes behind
 have yld:∀ {V:Nat->Prop} {i:Nat} {w2:World} {p:ByteArray×Int} {K:Bool->WP},J V i w2->(∀ k,V k->k<w2.heap.size)->(∀ k,V k->NoB w2 k)->(zY S n)[i]?=some p->(∀ w3,w2.heap.size<=w3.heap.size->(∀ k,V k->w3.heap[k]?=w2.heap[k]?)->RSp b db S F Fd x hb hr nb nr m w3->J V (i+1) w3->K true w3)->(∀ w3,E V w3->K false w3)->
   yF prog (.func (.yield l) #[] #[]) [.string p.1,.int .i64 p.2] (.one (.one .bool)) K w2:=by
  intro V i w2 p K hJ2 hV2 hB2 hp hK1 hK2;have hidx:i<(qV (zY S n)).length:=by rw[xV];exact(List.getElem?_eq_some_iff.1 hp).1
  refine .inr ⟨l,rfl,?_⟩;have hy:=hY V i w2 hidx hJ2 hV2 hB2;rw[zkO hidx hp]at hy;obtain⟨fn,tmps,asg,bd,hy1,hy2⟩:=hy;refine⟨fn,tmps,asg,bd,hy1,RoundIn.mono hy2 ?_⟩;rintro(v|cc|_) w6 hvv
  ·obtain⟨a1,a2,⟨rfl,a3,a4⟩|⟨rfl,a3⟩⟩:=hvv
   ·exact⟨true,rfl,hK1 w6 a1 a2 a3 a4⟩
   ·exact⟨false,rfl,hK2 w6 a3⟩
  ·exact hvv
  ·exact hvv
 have he1s:=he1.size
 let V1:Nat->Prop:=fun q=>Q q\/orow y.1=some q
 have hV1n:∀ q,V1 q->Q q\/wc.heap.size<=q:=fun q hq=>by
  rcases hq with hq|hq
  ·exact .inl hq
  ·exact .inr (hok.row q hq)
 have hV1l:∀ q,V1 q->q<w1.heap.size:=fun q hq=>by
  rcases hq with hq|hq
  ·exact Nat.lt_of_lt_of_le (hQc q hq) he1s
  ·exact hok.yc q hq
 have hV1b:∀ q,V1 q->NoB w1 q:=fun q hq=>by
  rcases hq with hq|hq
  ·exact(hQB q hq).at_ (he1.block q (hQc q hq))
  ·exact zoH hok (by decide) q hq
 have hJ1:J V1 0 w1:=hJ _ _ _ _ _ hJ0 (Only.zB he1) hV1n (hRst hS he1);refine zg (fun hq=>?_) (fun hq=>?_)
 ·have hq:=bne_iff_ne.1 hq;have ep:zY S n=[(ByteArray.empty,(qe S n).2.2)]:=by unfold zY;rw[if_pos hq]
  refine yld (p:=(ByteArray.empty,(qe S n).2.2)) hJ1 hV1l hV1b (by rw[ep];rfl) (fun w3 _ _ _ hJ3=>⟨V1,.inl ⟨?_,hV1n,trivial⟩⟩) (fun w3 hE=>⟨V1,.inr hE⟩);rw[xV,ep];exact hJ3
 have hq:=bne_eq_false_iff_eq.1 hq;have ep:zY S n=goS S (qe S n).1 (qe S n).2.1:=by unfold zY;rw[if_neg (fun hh=>hh hq)]
 have hyn:=hok.len;have hkn:∀ k∈(qe S n).2.1,k<4294967296:=by
  intro k hk;have hd:=hS'.dims.n;unfold qe at hk;split at hk
  ·cases hk
  ·rename_i h0;have h0:(S.get n).2=0:=by omega
   have:=zdH h0;split at hk
   ·cases hk
   ·split at hk
    ·cases hk
    ·split at hk
     ·cases hk
     ·have:=this.2 k hk;omega
 have hz65:(qe S n).1<=65536:=by
  unfold qe;split
  ·omega
  ·split
   ·omega
   ·split
    ·omega
    ·split
     ·omega
     ·rename_i hh;omega
 have hle:=hok.le;generalize hks:(qe S n).2.1=ks at *;generalize hsz0:(qe S n).1=z0 at *;refine zz (fun y' w'=>∃ (j zj:Nat) (V:Nat->Prop),j<=y.2.1/\y'=((zj:Int),(j:Int),())/\zj<=65536/\(zY S n).drop j=goS S zj (ks.drop j)/\j<=(zY S n).length/\J V j w'/\(∀ q,V1 q->V q)/\(∀ q,V q->Q q\/wc.heap.size<=q)/\(∀ q,V q->q<w'.heap.size)/\(∀ q,V q->NoB w' q)/\(∀ q,V1 q->w'.heap[q]?=w1.heap[q]?)/\w1.heap.size<=w'.heap.size) (fun y'=>(y.2.1-y'.2.1).toNat)
  ⟨0,z0,V1,by omega,rfl,hz65,by rw[ep];rfl,by omega,hJ1,fun q h=>h,hV1n,hV1l,hV1b,fun _ _=>rfl,Nat.le_refl _⟩ ?_
 rintro _ w2 ⟨j,zj,V,hj,rfl,hzj,hdrop,hjl,hJ2,hVV,hVn,hVl,hVb,hkp,hs12⟩;dsimp only;have hS2:=hJR _ _ _ hJ2;have hS2':SpM w2 b db S F Fd x hb hr nb nr m:=hS2;have k1w:=(k1.ext he1).at_ (hkp r1 (.inl hQ1));have hslj:Sli (zu .u32) w2 y.1 y.2.1 ks:=hok.sl.congr (fun a ha=>hkp _ (.inr (by rw[ha];rfl)))
 by_cases hlt:j<y.2.1
 ·refine zf (decide_eq_true (by omega)) ?_;refine zU hslj (by omega) (by omega) ?_;rw[Int.toNat_natCast];have eg:ks[j]?=some (ks.getD j 0):=by rw[getD_eq_getElem?_getD,List.getElem?_eq_getElem (by omega)];rfl
  have hk32:=hkn _ (mem_of_getElem? eg);have edrop:ks.drop j=ks.getD j 0::ks.drop (j+1):=by
   obtain⟨h1,h2⟩:=List.getElem?_eq_some_iff.1 eg;rw[List.drop_eq_getElem_cons h1,h2]
  rw[edrop]at hdrop;generalize ks.getD j 0=k at *;refine zo (x:=some ⟨b,0,none⟩) k1w (by rfl) ?_;refine zb (qQ hS2' (k:=0) (by omega) (by omega)) ?_;rintro _ w3 ⟨rfl,he3⟩;refine⟨_,rfl,?_⟩;rw[q0];refine zo (x:=some ⟨b,0,none⟩) (k1w.ext he3) (by rfl) ?_;refine zb (ub (hS2'.ext he3) hk32) ?_;rintro _ w4 ⟨y2,rfl,hok4,he4⟩;refine⟨(pgT (S.get k).1 y2,(S.get k).2,()),rfl,?_⟩;refine yn (vs:=pgV (S.get k).1 y2) (by rfl) (jU _ _) (fun r13 w5 hb5 he5 hr5=>?_) (by rfl);have he25:=(he3.trans he4).trans he5;have h25:=he25.size;have hkl:(S.get k).2=0->(S.get k).1.2.1.length<=1024:=fun h0=>(zdH h0).1;have hy2n:=hok4.len;have ewant:(if ((S.r0:Nat):Int)<(zj:Int) then ((S.r0:Nat):Int) else (zj:Int))=((min zj S.r0:Nat):Int):=by split<;>omega
  rw[ewant];dsimp only;refine yk (fun y' w'=>y'=(zbr S (min zj S.r0) k,())/\w'=w5) ?_ (fun J' hJ'=>?_);rotate_left
  ·unfold zbr at hJ';refine zg (fun hq=>?_) (fun hq=>?_)
   ·have hq:=beq_iff_eq.1 hq;refine zF (((S.get k).1.1.toNat:Nat):Int) hb5 (by rfl) ?_;refine zg (fun h7=>?_) (fun h7=>?_)
    ·have h7:=bne_iff_ne.1 h7;exact hJ' _ _ ⟨by rw[if_pos ⟨hq,.inl (fun e=>by rw[e]at h7;exact h7 rfl)⟩],rfl⟩
    have h7:=bne_eq_false_iff_eq.1 h7;have h7':(S.get k).1.1=7:=by
     apply UInt8.toNat_inj.1;show _=7;omega
    refine zn (l:=.slc) 1 y2 hb5 (by rfl) ?_;refine zg (fun h8=>?_) (fun h8=>?_)
    ·have h8:=of_decide_eq_true h8;exact hJ' _ _ ⟨by rw[if_pos ⟨hq,.inr (.inl (by omega))⟩],rfl⟩
    have h8:=of_decide_eq_false h8;refine zn 2 (S.get k).1.2.2 hb5 (by rfl) ?_;refine zg (fun h9=>?_) (fun h9=>?_)
    ·have h9:=bne_iff_ne.1 h9;exact hJ' _ _ ⟨by rw[if_pos ⟨hq,.inr (.inr (by omega))⟩],rfl⟩
    have h9:=bne_eq_false_iff_eq.1 h9;exact hJ' _ _ ⟨by rw[if_neg (by rintro⟨_,e|e|e⟩;exact e h7';omega;omega)],rfl⟩
   ·have hq:¬(S.get k).2=0:=beq_eq_false_iff_ne.1 hq;exact hJ' _ _ ⟨by rw[if_neg (fun e=>hq e.1)],rfl⟩
  rintro y' w6 ⟨rfl,hw6⟩;rw[hw6];dsimp only
  let V2:Nat->Prop:=fun q=>V q\/q=r13
  have hr13:w2.heap.size<=r13:=Nat.le_trans (he3.trans he4).size hr5;have hV2n:∀ q,V2 q->V q\/w2.heap.size<=q:=fun q hq=>by
   rcases hq with hq|rfl
   ·exact .inl hq
   ·exact .inr hr13
  have hJ5:J V2 j w5:=hJ _ _ _ _ _ hJ2 (Only.zB he25) hV2n (hRst hS2 he25);have hV2l:∀ q,V2 q->q<w5.heap.size:=fun q hq=>by
   rcases hq with hq|rfl
   ·exact Nat.lt_of_lt_of_le (hVl q hq) h25
   ·exact hb5.lt
  have hV2b:∀ q,V2 q->NoB w5 q:=fun q hq=>by
   rcases hq with hq|rfl
   ·exact(hVb q hq).at_ (he25.block q (hVl q hq))
   ·exact ze6 hb5 (by decide)
  have hV2Q:∀ q,V2 q->Q q\/wc.heap.size<=q:=fun q hq=>by
   rcases hV2n q hq with e|e
   ·exact hVn q e
   ·exact .inr (by omega)
  have hkp5:∀ q,V1 q->w5.heap[q]?=w1.heap[q]?:=fun q hq=>(he25.block q (hVl q (hVV q hq))).trans (hkp q hq);have hget0:∀ p r,(zY S n).drop j=p::r->(zY S n)[j]?=some p/\(zY S n).drop (j+1)=r/\j+1<=(zY S n).length:=fun p r hh=>by
   have h1:((zY S n).drop j)[0]?=some p:=by rw[hh];rfl
   rw[List.getElem?_drop,Nat.add_zero]at h1;refine⟨h1,?_,(List.getElem?_eq_some_iff.1 h1).1⟩;have h2:=congrArg (List.drop 1) hh;rw[drop_drop]at h2
   simpa using h2
  refine zg (fun hq=>?_) (fun hq=>?_)
  ·have hq:=bne_iff_ne.1 hq;rw[goS,if_pos hq]at hdrop;obtain⟨g1,g2,g3⟩:=hget0 _ _ hdrop;have hl1:(zY S n).length=j+1:=by
    have:=congrArg List.length hdrop;rw[length_drop,length_singleton]at this;omega
   refine yld (p:=(ByteArray.empty,zbr S (min zj S.r0) k)) hJ5 hV2l hV2b g1 (fun w7 _ _ _ hJ7=>⟨V2,.inl ⟨?_,hV2Q,trivial⟩⟩) (fun w7 hE=>⟨V2,.inr hE⟩);rw[xV,hl1];exact hJ7
  have hq:=bne_eq_false_iff_eq.1 hq;rw[goS,if_neg (fun hh=>hh hq)]at hdrop;obtain⟨g1,g2,g3⟩:=hget0 _ _ hdrop;refine zn 2 (S.get k).1.2.2 hb5 (by rfl) ?_;refine yld (p:=((S.get k).1.2.2,0)) hJ5 hV2l hV2b g1 (fun w7 a1 a2 a3 a4=>?_) (fun w7 hE=>zf (by rfl) ⟨V2,.inr hE⟩);refine zd (by rfl) ?_;have w1':wrap .i64 ((zj:Int)-((min zj S.r0:Nat):Int))=((zj-min zj S.r0:Nat):Int):=by rw[wrap_i64 (by omega) (by omega)];omega
  have w2':wrap .i64 ((j:Int)+1)=((j+1:Nat):Int):=by rw[wrap_i64 (by omega) (by omega)];rfl
  rw[w1',w2'];refine⟨⟨j+1,zj-min zj S.r0,V2,by omega,rfl,by omega,g2,g3,a4,fun q hq=>.inl (hVV q hq),hV2Q,fun q hq=>Nat.lt_of_lt_of_le (hV2l q hq) a1,fun q hq=>(hV2b q hq).at_ (a2 q hq),fun q hq=>(a2 q (.inl (hVV q hq))).trans (hkp5 q hq),by omega⟩,by omega⟩
 ·obtain rfl:j=y.2.1:=by omega
  refine zd (decide_eq_false (by omega)) ?_;rw[drop_of_length_le (l:=ks) (by omega),goS]at hdrop;have hl1:(zY S n).length=y.2.1:=by
   have:=congrArg List.length hdrop;rw[length_drop,length_nil]at this;omega
  refine⟨V,.inl ⟨?_,hVn,trivial⟩⟩;rw[xV,hl1];exact hJ2
theorem zh6 (h:SpM w b db S F Fd x hb hr nb nr m) {n:Nat} (hn:n<4294967296):
  Calls prog 127 #[.pointer (some ⟨b,0,none⟩),.int .u32 (n:Int)] w (Ret fun v w'=>∃ (Q:Nat->Prop) (R0:WP),zjo prog v (qV (zY S n)) (RSp b db S F Fd x hb hr nb nr m) Q R0 (fun _=>True) NoB/\R0 w'/\(∀ w1 w2,R0 w1->Ext w1 w2->R0 w2)/\(∀ k,Q k->k<w'.heap.size)/\(∀ k,Q k->w.heap.size<=k)/\Ext w w'):=by
 have hFlt:=h.lt;apply zlt;unfold S127;refine zr fun r1 w1 hb1 he1 hr1 hz1=>?_;refine zr fun r2 w2 hb2 he2 hr2 hz2=>?_;have he:=he1.trans he2;have hs1:=he1.size;refine⟨fun k=>k=r1\/k=r2,Two b n r1 r2,?_,⟨hb1.ext he2,hb2⟩,fun w1 w2 h1 h2=>⟨h1.1.ext h2,h1.2.ext h2⟩,fun k hk=>by rcases hk with rfl|rfl<;>omega,fun k hk=>by rcases hk with rfl|rfl<;>omega,he⟩;refine⟨_,_,rfl,by kernel_rfl,fun l J E wc hJ0 hQc hR0c hJR hJs hEs hY=>?_⟩;exact zjH (N0:=w.heap.size) hn hFlt (by have:=hQc r1 (.inl rfl);omega) (.inl rfl) (fun k hk=>by rcases hk with rfl|rfl;exact ze6 hR0c.1 (by decide);exact ze6 hR0c.2 (by decide)) (fun k hk=>by rcases hk with rfl|rfl<;>omega) hJ0 hQc hR0c hJR hJs hY
end V
/- Contracts of the package blob:Get,Parts. -/
namespace V
open Go Go.Proofs Go.RowKit Crc
variable {w w':World} {b db:Nat} {S:Spa} {F Fd:Nat->Prop} {x:SLC} {hb hr nb nr:Nat} {m:MkL}
def BdV (V:Nat->Prop) (w:World) (b:Nat) (l:List UInt8):Prop:=∃ p v,(p=.pointer none\/p=.pointer (some ⟨b,0,none⟩))/\w.heap[b]?=some (.cells #[p,v] 204 (0,0))/\w.ownsRowF b 5 1 v (Lib.byteCells l).length (Lib.byteCells l)/\v.ownBlock≠some b/\∀ j,v.ownBlock=some j->¬V j
theorem BdV.is {V:Nat->Prop} {w:World} {b:Nat} {l:List UInt8} (h:BdV V w b l):Lib.IsBuilderF 204 5 b b (Lib.byteCells l) w:=by
 obtain⟨p,v,rfl|rfl,h1,h2,h3,_⟩:=h
 ·exact .inl ⟨Nat.le_refl _,v,h1,h2,h3⟩
 ·exact .inr ⟨Nat.le_refl _,v,h1,h2,h3⟩
theorem BdV.only {V V' G:Nat->Prop} {w w':World} {b:Nat} {l:List UInt8} (h:BdV V w b l) (hO:Only G w w') (hb:¬G b) (hG:∀ j,G j->V j\/w.heap.size<=j\/j<b) (hV:∀ j,V' j->V j\/w.heap.size<=j):BdV V' w' b l:=by
 obtain⟨p,v,hp,h1,h2,h3,h4⟩:=h;have hlt:=(Array.getElem?_eq_some_iff.1 h1).1;refine⟨p,v,hp,(hO.2.2.2.2 b hlt hb).trans h1,?_,h3,fun j hj hv=>?_⟩
 ·refine⟨h2.1,?_⟩;rcases h2.2 with hn|⟨g,cap,cur,fz,rfl,hbb,hgg,rest⟩
  ·exact .inl hn
  ·refine .inr ⟨g,cap,cur,fz,rfl,hbb,?_,rest⟩;have hgl:=(Array.getElem?_eq_some_iff.1 hgg).1;rw[hO.2.2.2.2 g hgl (fun hh=>by
    rcases hG g hh with e|e|e
    ·exact h4 g rfl e
    ·omega
    ·omega)]
   exact hgg
 ·rcases hV j hv with e|e
  ·exact h4 j hj e
  ·have:=(World.ownsRowF.lt h2 j hj).2;omega
theorem BdV.new {V:Nat->Prop} {w:World} {b:Nat} (h:Blk w b [.pointer none,.slice none 0 0] 204):BdV V w b []:=
 ⟨_,_,.inl rfl,h,World.ownsRowF_nil w b _ 1,(fun e=>by cases e),(fun j hj=>by cases hj)⟩
theorem BdV.lt {V:Nat->Prop} {w:World} {b:Nat} {l:List UInt8} (h:BdV V w b l):b<w.heap.size:=by
 obtain⟨p,v,hp,h1,_⟩:=h;exact(Array.getElem?_eq_some_iff.1 h1).1
theorem zjI {V:Nat->Prop} {w:World} {b:Nat} {l:List UInt8} (h:BdV V w b l) (s:ByteArray) (hl:l.length+s.size<=140737488355000) (hV:∀ k,V k->k<w.heap.size/\k≠b/\NoB w k):
  Calls prog 128 #[.pointer (some ⟨b,0,none⟩),.string s] w (Ret fun v w'=>v=.tuple #[.int .i64 s.size,.nilIface]/\BdV V w' b (l++B s)/\Below b w w'/\∀ k,k<w.heap.size->k≠b->NoB w k->w'.heap[k]?=w.heap[k]?):=
 (Tryz.Builder_WriteString_k b b (Lib.byteCells l) s w h.is (by rw[Lib.byteCells_length];omega) (Nat.le_of_lt h.lt)).mono (by
  rintro e w' ⟨rfl,⟨h1,v,h2,h3,h4⟩,hB,hK⟩
  have keep:∀ k,k<w.heap.size->k≠b->NoB w k->w'.heap[k]?=w.heap[k]?:=fun k h1 h2 h3=>by
   have e:=Array.getElem?_eq_getElem h1
   rw[e]
   exact hK k _ e (fun e'=>h2 (Option.some.inj e')) (fun c fz=>h3 _ e c fz)
  refine⟨rfl,⟨_,v,.inr rfl,h2,?_,h4,fun j hj hv=>?_⟩,hB,keep⟩
  ·have ee:Lib.byteCells (l++B s)=Lib.byteCells l++Lib.strCells s:=by simp[Lib.byteCells,strCells_eq,bV]
   rw[ee]
   exact h3
  ·obtain⟨v1,v2,v3⟩:=hV j hv
   rcases h3.2 with ⟨hn,_⟩|⟨g,cap,cur,fz,hvv,_,hgg,_⟩
   ·subst hn;cases hj
   ·subst hvv
    have:g=j:=Option.some.inj hj
    subst this
    rw[keep g v1 v2 v3]at hgg
    exact v3 _ hgg cur fz rfl)
theorem zh7 {V:Nat->Prop} {w:World} {b:Nat} {l:List UInt8} (h:BdV V w b l):
  Calls prog 129 #[.pointer (some ⟨b,0,none⟩)] w (Ret fun v w'=>v=.string (mkB l)/\Below b w w'/\∀ k,k<w.heap.size->k≠b->NoB w k->w'.heap[k]?=w.heap[k]?):=
 (Tryz.Builder_String_any_k b b l w h.is (Nat.le_of_lt h.lt)).mono (by
  rintro e w' ⟨rfl,_,hB,hK⟩
  refine⟨rfl,hB,fun k h1 h2 h3=>?_⟩
  have e:=Array.getElem?_eq_getElem h1
  rw[e]
  exact hK k _ e (fun e'=>h2 (Option.some.inj e')) (fun c fz=>h3 _ e c fz))
def zbs (S:Spa) (n:Nat):ByteArray×Int:=match (zY S n).find? (fun p=>decide (p.2≠0)) with
 |some p=>(ByteArray.empty,p.2)
 |none=>(mkB ((zY S n).flatMap fun p=>B p.1),0)
theorem zjJ {l:List (ByteArray×Int)} {i:Nat} {p:ByteArray×Int} (hp:l[i]?=some p) (hne:p.2≠0) (hno:∀ (j:Nat) (q:ByteArray×Int),j<i->l[j]?=some q->q.2=0):l.find? (fun p=>decide (p.2≠0))=some p:=by
 induction l generalizing i with
 |nil=>simp at hp
 |cons a t ih=>
  cases i with
  |zero=>
   simp only [List.getElem?_cons_zero,Option.some.injEq]at hp;subst hp;rw[List.find?_cons,decide_eq_true hne]
  |succ i=>
   have h0:=hno 0 a (by omega) rfl;rw[List.find?_cons,decide_eq_false (fun e=>e h0)];exact ih (i:=i) (by simpa using hp) (fun j q hj hq=>hno (j+1) q (by omega) (by simpa using hq))
theorem zfD {l:List (ByteArray×Int)} (hno:∀ (j:Nat) (q:ByteArray×Int),l[j]?=some q->q.2=0):l.find? (fun p=>decide (p.2≠0))=none:=by
 rw[List.find?_eq_none];intro p hp;obtain⟨j,hj,e⟩:=List.mem_iff_getElem.1 hp;have:=hno j p (by rw[List.getElem?_eq_getElem hj,e]);simp[this]
def je (S:Spa) (n i:Nat):List UInt8:=((zY S n).take i).flatMap fun p=>B p.1
theorem zjK (h:SpM w b db S F Fd x hb hr nb nr m) {n:Nat} (hn:n<4294967296) (hlen:(zY S n).length<=100000) (hsz0:∀ p∈zY S n,p.1.size<=5000):
  Calls prog 82 #[.pointer (some ⟨b,0,none⟩),.int .u32 (n:Int)] w (Ret fun v w'=>v=.tuple #[.string (zbs S n).1,.int .i64 (zbs S n).2]/\Ext w w'):=by
 have hFlt:=h.lt;have hbl:∀ i,(je S n i).length<=i*5000:=by
  intro i
  induction i with
  |zero=>simp[je]
  |succ i ih=>
   unfold je at ih ⊢;rw[take_add_one];rw[flatMap_append,length_append];cases hp:(zY S n)[i]? with
   |none=>rw[Option.toList_none,List.flatMap_nil,length_nil,Nat.add_zero];exact Nat.le_trans ih (Nat.mul_le_mul_right _ (Nat.le_succ i))
   |some p=>
    have:=hsz0 p (mem_of_getElem? hp);rw[yj]at this;rw[Option.toList_some,flatMap_cons,List.flatMap_nil,append_nil,Nat.add_mul,Nat.one_mul];exact Nat.add_le_add ih (by omega)
 apply zn8;unfold S82;refine zr fun r1 w1 hb1 he1 hr1 hz1=>?_;refine zr fun r2 w2 hb2 he2 hr2 hz2=>?_;refine zd (by rfl) ?_;refine zr fun r5 w3 hb5 he3 hr5 hz5=>?_;have hb1:=(hb1.ext he2).ext he3;have hb2:=hb2.ext he3;have he:=(he1.trans he2).trans he3;refine zb (zh6 (h.ext he) hn) ?_;rintro v w4 ⟨Q,R0,hit,hR0,hRx,hQl,hQ,he4⟩;refine⟨v,rfl,?_⟩;have he04:=he.trans he4;have hb1:=hb1.ext he4;have hb2:=hb2.ext he4;have hb5:=hb5.ext he4;have h34:=he4.size;have hs1:=he1.size;have h04:=he04.size;have hsame:∀ {w' w'':World},yR w4.heap.size (w4.heap.size+1) w' w''->RSp b db S F Fd x hb hr nb nr m w'->RSp b db S F Fd x hb hr nb nr m w'':=fun hs hS=>
  SpM.qk hS hs (fun hf=>by have:=hFlt _ hf;omega) (fun hf=>by have:=hFlt _ hf;omega)
 have hRb:∀ {w' w'':World},Only (fun k=>r5<=k) w' w''->RSp b db S F Fd x hb hr nb nr m w'->RSp b db S F Fd x hb hr nb nr m w'':=fun hO hS=>SpM.only hS hO (fun j hj hk=>by have:=hFlt _ hj;have:r5<=j:=hk;omega);have hel:∀ i,i<(zY S n).length->(zY S n)[i]?=some ((zY S n).getD i (ByteArray.empty,0)):=fun i hi=>by rw[getD_eq_getElem?_getD,List.getElem?_eq_getElem hi];rfl
 refine zdB (fun i=>(((zY S n).getD i (ByteArray.empty,0)).1,((zY S n).getD i (ByteArray.empty,0)).2,())) ?_
  (fun V i w'=>RSp b db S F Fd x hb hr nb nr m w'/\Blk w' r1 [.string ByteArray.empty] 9/\Blk w' r2 [.int .i64 0] 28/\BdV (fun k=>V k\/k=w4.heap.size\/k=w4.heap.size+1) w' r5 (je S n i)/\(∀ j q,j<i->(zY S n)[j]?=some q->q.2=0)/\Ext w w'/\(∀ k,V k->r5<k)/\w4.heap.size<=w'.heap.size)
  (fun V c w'=>c=.ret/\∃ e:Int,Blk w' r1 [.string ByteArray.empty] 9/\Blk w' r2 [.int .i64 e] 28/\zbs S n=(ByteArray.empty,e)/\Ext w w'/\(∀ k,V k->r5<k)/\w4.heap.size<=w'.heap.size)
  hit hQl (fun w' w'' hs hS=>hsame hs hS) (fun _ _ _ _=>trivial) ?_ ?_ ?_ ?_ ?_ ?_ ?_ ?_
 ·intro i hi;have hi':i<(zY S n).length:=by rw[xV]at hi;exact hi
  simp[qV,hi']
 ·intro V i w' hI;exact hI.1
 ·rintro V V' i w' w'' ⟨g1,g2,g3,g4,g5,g6,g7,g8⟩ hO hV hR;have hno:∀ k,k<=r5->¬(V k\/k=w4.heap.size\/k=w4.heap.size+1):=fun k hk hh=>by
   rcases hh with hh|hh|hh
   ·have:=g7 k hh;omega
   ·omega
   ·omega
  refine⟨hR,g2.only hO (hno r1 (by omega)),g3.only hO (hno r2 (by omega)),?_,g5,Only.ext g6 hO (fun j hj=>?_),fun k hk=>?_,?_⟩
  ·refine BdV.only g4 hO (hno r5 (by omega)) (fun j hj=>.inl hj) (fun j hj=>?_);rcases hj with hj|hj
   ·rcases hV j hj with e|e
    ·exact .inl (.inl e)
    ·exact .inr e
   ·exact .inl (.inr hj)
  ·rcases hj with hj|rfl|rfl
   ·have:=g7 j hj;omega
   ·omega
   ·omega
  ·rcases hV k hk with e|e
   ·exact g7 k e
   ·omega
  ·have:=hO.2.2.2.1;omega
 ·rintro V V' c w' w'' ⟨rfl,e,g1,g2,g3,g6,g7,g8⟩ hO hV;have hno:∀ k,k<=r5->¬(V k\/k=w4.heap.size\/k=w4.heap.size+1):=fun k hk hh=>by
   rcases hh with hh|hh|hh
   ·have:=g7 k hh;omega
   ·omega
   ·omega
  refine⟨rfl,e,g1.only hO (hno r1 (by omega)),g2.only hO (hno r2 (by omega)),g3,Only.ext g6 hO (fun j hj=>?_),fun k hk=>?_,?_⟩
  ·rcases hj with hj|rfl|rfl
   ·have:=g7 j hj;omega
   ·omega
   ·omega
  ·rcases hV k hk with e|e
   ·exact g7 k e
   ·omega
  ·have:=hO.2.2.2.1;omega
 ·intro o;have hx:Ext w4 ((w4.alloc (.deferred (some []))).alloc o):=((Ext.refl w4).alloc _).alloc _;exact⟨(h.ext he04).ext hx,hb1.ext hx,hb2.ext hx,BdV.new (hb5.ext hx),fun j q hj=>by omega,he04.trans hx,fun k hk=>by have:=hQ k hk;omega,hx.size⟩
 ·intro o;exact hRx _ _ hR0 (((Ext.refl w4).alloc _).alloc _)
 ·rintro V i hi w' G N jump hI hsz hV hVb hG;have hi':i<(zY S n).length:=by rw[xV]at hi;exact hi
  have ei:=hel i hi';have hpz:=hsz0 _ (mem_of_getElem? ei);generalize (zY S n).getD i (ByteArray.empty,0)=p at *;refine hG _ w' hI (Nat.le_refl _) (fun _ _=>rfl) ?_;rintro w2' ⟨g1,g2,g3,g4,g5,g6,g7,g8⟩ hs2 hk2 hNC hN' hJ';dsimp only;refine zg (fun hq=>?_) (fun hq=>?_)
  ·have hq:=bne_iff_ne.1 hq;refine zS g2 (by show 0<1;omega) ?_;have a1:=g2.set 0 (.string (ByteArray.mk #[]));have a2:=g3.other (p:=⟨r1,0,none⟩) (by show r1≠r2;omega) (.string (ByteArray.mk #[]));refine zS a2 (by show 0<1;omega) ?_;have a3:=a1.other (p:=⟨r2,0,none⟩) (by show r2≠r1;omega) (.int .i64 p.2);have a4:=a2.set 0 (.int .i64 p.2);refine hJ' .ret _ ⟨rfl,p.2,a3,a4,?_,(g6.set (p:=⟨r1,0,none⟩) (by show w.heap.size<=r1;omega) _).set (p:=⟨r2,0,none⟩) (by show w.heap.size<=r2;omega) _,g7,by simp;omega⟩ (by simp) (fun k hk=>?_)
   ·unfold zbs;rw[zjJ ei hq (fun j q hj hq'=>g5 j q hj hq')]
   ·have hkr:k≠r1/\k≠r2:=by
     rcases hk with rfl|rfl|hk
     ·omega
     ·omega
     ·have:=g7 k hk;omega
    rw[Below.heap_setCell _ _ _ _ (by show k≠r2;exact hkr.2),Below.heap_setCell _ _ _ _ (by show k≠r1;exact hkr.1)]
  ·have hq:=bne_eq_false_iff_eq.1 hq;have hbli:=hbl i;have hV2:∀ k,(V k\/k=w4.heap.size\/k=w4.heap.size+1)->k<w2'.heap.size/\k≠r5/\NoB w2' k:=fun k hk=>by
    rcases hk with hk|hk
    ·obtain⟨v1,v2,v3⟩:=hV k hk;exact⟨by omega,by have:=g7 k hk;omega,(hVb k hk).at_ (hk2 k v2 v3)⟩
    ·exact⟨by omega,by omega,fun o ho c fz=>hNC k hk o ho c _ fz⟩
   refine zb (zjI g4 p.1 (by omega) hV2) ?_;rintro _ w5 ⟨rfl,g4',hB,hK⟩;refine⟨(((p.1.size:Nat):Int),.nilIface,()),rfl,?_⟩;have oB:Only (fun k=>r5<=k) w2' w5:=⟨hB.os,hB.tape,hB.output,hB.size,fun k _ hk=>hB.block k (by have:¬r5<=k:=hk;omega)⟩;refine hN' w5 (hRb oB g1) ⟨hRb oB g1,g2.only oB (by show ¬r5<=r1;omega),g3.only oB (by show ¬r5<=r2;omega),?_,fun j q hj hq'=>?_,Only.ext g6 oB (fun j hj=>by have:r5<=j:=hj;omega),g7,by have:=hB.size;omega⟩ hB.size (fun k hk=>?_)
   ·have e1:je S n (i+1)=je S n i++B p.1:=by
     unfold je;rw[take_add_one,ei,flatMap_append];simp
    rw[e1];exact g4'
   ·by_cases hji:j=i
    ·subst hji;rw[ei]at hq';injection hq' with hq'
     rw[<- hq'];exact hq
    ·exact g5 j q (by omega) hq'
   ·have hk':V k\/k=w4.heap.size\/k=w4.heap.size+1:=by
     rcases hk with e|e|e
     ·exact .inr (.inl e)
     ·exact .inr (.inr e)
     ·exact .inl e
    obtain⟨v1,v2,v3⟩:=hV2 k hk';exact hK k v1 v2 v3
 ·rintro V w' ⟨g1,g2,g3,g4,g5,g6,g7,g8⟩ _ hsz hdf;rw[qT];refine zb (zh7 g4) ?_;rintro _ w5 ⟨rfl,hB,hK⟩;refine⟨_,rfl,?_⟩;have oB:Only (fun k=>r5<=k) w' w5:=⟨hB.os,hB.tape,hB.output,hB.size,fun k _ hk=>hB.block k (by have:¬r5<=k:=hk;omega)⟩;have a1:=g2.only oB (by show ¬r5<=r1;omega);have a2:=g3.only oB (by show ¬r5<=r2;omega);have hx5:=Only.ext g6 oB (fun j hj=>by have:r5<=j:=hj;omega);have hdf5:w5.heap[w4.heap.size]?=some (.deferred (some [])):=by
   rw[hK w4.heap.size (by omega) (by omega) (fun o ho c fz e=>by rw[hdf]at ho;injection ho with ho;rw[<- ho]at e;cases e)];exact hdf
  refine zS a1 (by show 0<1;omega) ?_;have b1:=a1.set 0 (.string (mkB (je S n (qV (zY S n)).length)));have b2:=a2.other (p:=⟨r1,0,none⟩) (by show r1≠r2;omega) (.string (mkB (je S n (qV (zY S n)).length)));refine zS b2 (by show 0<1;omega) ?_;have c1:=b1.other (p:=⟨r2,0,none⟩) (by show r2≠r1;omega) (.int .i64 0);have c2:=b2.set 0 (.int .i64 0);refine ja ?_ ?_
  ·rw[Below.heap_setCell _ _ _ _ (by show w4.heap.size≠r2;omega),Below.heap_setCell _ _ _ _ (by show w4.heap.size≠r1;omega)];exact hdf5
  have hxx:=(hx5.set (p:=⟨r1,0,none⟩) (by show w.heap.size<=r1;omega) (.string (mkB (je S n (qV (zY S n)).length)))).set (p:=⟨r2,0,none⟩) (by show w.heap.size<=r2;omega) (.int .i64 0);have hsb:=zX (a:=w4.heap.size) (b:=w4.heap.size+1) (w:=(w5.setCell ⟨r1,0,none⟩ (.string (mkB (je S n (qV (zY S n)).length)))).setCell ⟨r2,0,none⟩ (.int .i64 0)) (o:=.deferred none) (.inl rfl);refine zo (x:=mkB (je S n (qV (zY S n)).length)) (hsb.blk c1 (by omega)) (by rfl) (zo (x:=(0:Int)) (hsb.blk c2 (by omega)) (by rfl) ?_);refine⟨?_,hsb.ext hxx (by omega)⟩;unfold zbs;rw[zfD (fun j q hq=>g5 j q (by rw[xV];exact(List.getElem?_eq_some_iff.1 hq).1) hq)];unfold je;rw[xV,List.take_length]
 ·rintro V c w' ⟨rfl,e,g1,g2,g3,g6,g7,g8⟩ hsz hdf;rw[qT];refine ja hdf ?_;have hsb:=zX (a:=w4.heap.size) (b:=w4.heap.size+1) (w:=w') (o:=.deferred none) (.inl rfl);refine zo (x:=ByteArray.empty) (hsb.blk g1 (by omega)) (by rfl) (zo (x:=e) (hsb.blk g2 (by omega)) (by rfl) ?_);rw[g3];exact⟨rfl,hsb.ext g6 (by omega)⟩
end V
/- Blobs:what they tell. -/
namespace V
open Go Go.Proofs Go.RowKit Crc
structure vU (S:Spa) (n:Nat) (b:ByteArray) (ks:List Nat):Prop where
 idx:S.page n=(((6:UInt8),ks,mkB (le 4 b.size)),0)
 len:ks.length=nparts S.r0 b.size
 data:∀ i,i<ks.length->S.page (ks.getD i 0)=(((7:UInt8),[],part S.r0 b i),0)
 most:b.size<=qG S.r0
theorem vU.blob {S:Spa} {R:List Nat} {n:Nat} {b:ByteArray} {ks:List Nat} (h:vU S n b ks) (hg:Good S R) (hn:zE S.sup.pages S.now n=true):Blob S n b ks:=by
 have hk:∀ k∈ks,zE S.sup.pages S.now k=true:=fun k hk=>(hg.well.good n hn).2 k (by unfold z6;rw[h.idx];exact hk);refine⟨by rw[(hg.get hn).1];exact h.idx,h.len,fun i hi=>?_,h.most⟩;have hm:ks.getD i 0∈ks:=by rw[getD_eq_getElem?_getD,List.getElem?_eq_getElem hi];exact getElem_mem hi
 rw[(hg.get (hk _ hm)).1];exact h.data i hi
theorem vU.keep {S S':Spa} {n:Nat} {b:ByteArray} {ks:List Nat} (h:vU S n b ks) (hr:S'.r0=S.r0) (hp:∀ k,k=n\/k∈ks->S'.page k=S.page k):vU S' n b ks:=by
 refine⟨by rw[hp n (.inl rfl)];exact h.idx,by rw[hr];exact h.len,fun i hi=>?_,by rw[hr];exact h.most⟩;have hm:ks.getD i 0∈ks:=by rw[getD_eq_getElem?_getD,List.getElem?_eq_getElem hi];exact getElem_mem hi
 rw[hp _ (.inr hm),hr];exact h.data i hi
structure zpG (S S2:Spa) (R:List Nat) (bs:ByteArray) (n:Nat) (ks:List Nat):Prop where
 good:Good S2 (n::R)
 sup:S2.sup=S.sup
 held:S2.held=S.held
 mark:S2.mark=S.mark
 slot:S2.slot=S.slot
 blob:vU S2 n bs ks
 two:2<=n
 lt:n<S.N
 page:∀ k,zE S.sup.pages S.now k=true->S2.page k=S.page k
 fresh:S.now.getD n 0=0
 one:S2.now.getD n 0=1
 now:∀ k,zE S.sup.pages S.now k=true->S2.now.getD k 0=S.now.getD k 0
 free:S.zQ=S2.zQ+nparts S.r0 bs.size+1
 ye:S.ye=ks++n::S2.ye
 klen:ks.length=nparts S.r0 bs.size
 pen:S2.dev.pen.length=S.dev.pen.length+nparts S.r0 bs.size+1
 kept:Kept S S2
theorem zoI {S S1 S2:Spa} {R ks:List Nat} {bs:ByteArray} {n:Nat} (h0:Good S R) (hm:bs.size<=qG S.r0) (hP:Puts S S1 R ks (vJ S.r0 bs (nparts S.r0 bs.size))) (hO:kZ S1 S2 ((6:UInt8),ks,mkB (le 4 bs.size)) n) (hg:Good S2 (n::R)):zpG S S2 R bs n ks:=by
 have hr1:S1.r0=S.r0:=by unfold Spa.r0 Spa.room;rw[hP.sup]
 have hr2:S2.r0=S.r0:=by unfold Spa.r0 Spa.room;rw[hO.sup,hP.sup]
 have hkl:ks.length=nparts S.r0 bs.size:=by rw[<- hP.len];simp[vJ]
 have hmem:∀ i,i<ks.length->ks.getD i 0∈ks:=fun i hi=>by rw[getD_eq_getElem?_getD,List.getElem?_eq_getElem hi];exact getElem_mem hi
 have hnk:n∉ks:=fun hk=>by
  have hf:=(zP.1 hO.free).1;rw[hP.now n,if_pos hk]at hf;cases hf
 have hfr:=zP.1 hO.free;have hn0:S.now.getD n 0=0:=by
  have:=hP.now n;rw[if_neg hnk]at this;omega
 have huk:∀ k,zE S.sup.pages S.now k=true->k∉ks/\k≠n/\k<S.N:=fun k hu=>by
  have hpos:=(zI.1 hu).2.2;refine⟨fun hk=>?_,fun e=>?_,h0.well.lt hu⟩
  ·have:=(zP.1 (hP.mem hk).2.2.1).1;omega
  ·rw[e]at hpos;omega
 have hN1:=hP.N;have hnl:n<S1.now.length:=by rw[hP.good.ok.now];exact hO.lt
 refine⟨hg,hO.sup.trans hP.sup,hO.held.trans hP.held,hO.mark.trans hP.mark,hO.slot.trans hP.slot,⟨hO.page,by rw[hr2];exact hkl,fun i hi=>?_,by rw[hr2];exact hm⟩,hO.two,by rw[<- hN1];exact hO.lt,fun k hu=>?_,hn0,by rw[hO.now,yr,if_pos ⟨rfl,hnl⟩],fun k hu=>?_,?_,?_,?_,?_,⟨hO.sup.trans hP.sup,hO.held.trans hP.held,hO.mark.trans hP.mark,hO.slot.trans hP.slot,⟨hO.dim.1.trans hP.dim.1,hO.dim.2.trans hP.dim.2⟩,fun k h0 hk hf=>?_⟩⟩
 ·have hmi:=hmem i hi;rw[hO.other _ (fun e=>hnk (e▸hmi)) (by rw[hN1];exact(hP.mem hmi).2.1),hP.page i hi,hr2];unfold vJ;rw[getD_eq_getElem?_getD,List.getElem?_map,List.getElem?_range (by omega)];rfl
 ·obtain⟨a1,a2,a3⟩:=huk k hu;rw[hO.other k a2 (by rw[hN1];exact a3),hP.other k a3 a1]
 ·obtain⟨a1,a2,a3⟩:=huk k hu;rw[hO.now,yr,if_neg (fun e=>a2 e.1.symm),hP.now k,if_neg a1]
 ·unfold Spa.zQ;rw[hP.free,hO.ye,length_append,length_cons];omega
 ·rw[hP.free,hO.ye]
 ·exact hkl
 ·rw[hO.pen,hP.pen];omega
 ·rw[hO.read k h0 (by rw[hN1];exact hk) (fun e=>?_)]
  ·exact hP.kept.read k h0 hk hf
  ·have e:k.toNat=n:=by omega
   rw[e]at hf;rcases hf with hf|hf
   ·have:=hO.two;omega
   ·rw[zP.2 ⟨hn0,by rw[<- hP.held];exact hfr.2.1,by rw[<- hP.mark];exact hfr.2.2⟩]at hf;cases hf
theorem zpu {n:Nat} (h:n<=65536):lev (B (mkB (le 4 n)))=n:=by rw[yW];exact zgG (by omega)
theorem Blob.qe {S:Spa} {n:Nat} {b:ByteArray} {ks:List Nat} (h:Blob S n b ks):qe S n=(b.size,ks,0):=by
 have hb:b.size<=65536:=by have:=h.most;unfold qG at this;omega
 unfold V.qe;rw[h.idx];dsimp only;rw[if_neg (by simp),if_neg (by simp),if_neg (by rw[xf,zv];simp),zpu hb,if_neg (by rw[h.len];omega)]
theorem zha {S:Spa} {n:Nat} {b:ByteArray} {ks:List Nat} (h:Blob S n b ks) (hr:1<=S.r0):∀ (j i:Nat),i+j=ks.length->goS S (b.size-i*S.r0) (ks.drop i)=(List.range j).map fun t=>(part S.r0 b (i+t),(0:Int))
 |0,i,hi=>by
  rw[drop_of_length_le (by omega)];simp[goS]
 |j+1,i,hi=>by
  have hil:i<ks.length:=by omega
  have hd:=h.data i hil;have e:ks.drop i=ks.getD i 0::ks.drop (i+1):=by
   rw[List.drop_eq_getElem_cons hil,getD_eq_getElem?_getD,List.getElem?_eq_getElem hil];rfl
  have hp:=zci (r:=S.r0) (b:=b) (i:=i) hr (by rw[<- h.len];exact hil);have hpe:zbr S (min (b.size-i*S.r0) S.r0) (ks.getD i 0)=0:=by
   unfold zbr;rw[hd];dsimp only;rw[if_neg (by rintro⟨_,e|e|e⟩;exact e rfl;simp at e;apply e;rw[hp.1];exact Nat.min_comm _ _)]
  rw[e,goS,hpe,if_neg (by simp),hd];have e2:b.size-i*S.r0-min (b.size-i*S.r0) S.r0=b.size-(i+1)*S.r0:=by
   rw[Nat.add_mul,Nat.one_mul];omega
  rw[e2,zha h hr j (i+1) (by omega),List.range_succ_eq_map,map_cons,map_map];congr 1;apply map_congr_left;intro t _;show(part S.r0 b (i+1+t),(0:Int))=(part S.r0 b (i+(t+1)),0);rw[show i+1+t=i+(t+1) by omega]
theorem Blob.parts {S:Spa} {n:Nat} {b:ByteArray} {ks:List Nat} (h:Blob S n b ks) (hr:1<=S.r0):zY S n=(List.range ks.length).map fun t=>(part S.r0 b t,(0:Int)):=by
 unfold zY;rw[h.qe,if_neg (by simp)];have:=zha h hr ks.length 0 (by omega);rw[Nat.zero_mul,Nat.sub_zero,List.drop_zero]at this;rw[this];apply map_congr_left;intro t _;rw[Nat.zero_add]
theorem Blob.get {S:Spa} {n:Nat} {b:ByteArray} {ks:List Nat} (h:Blob S n b ks) (hr:1<=S.r0):zbs S n=(b,0):=by
 unfold zbs;rw[h.parts hr,zfD (fun j q hq=>by
  rw[List.getElem?_map]at hq
  cases hh:(List.range ks.length)[j]? with
  |none=>rw[hh]at hq;cases hq
  |some t=>rw[hh]at hq;injection hq with hq;rw[<- hq])]
 dsimp only;have e:((List.range ks.length).map fun t=>(part S.r0 b t,(0:Int))).flatMap (fun p=>B p.1)=(List.range ks.length).flatMap fun t=>B (part S.r0 b t):=by
  rw[List.flatMap_map]
 rw[e,zef hr b ks.length (by rw[h.len];exact Nat.le_refl _),take_of_length_le]
 ·rw[zi5]
 ·rw[<- yj,h.len];unfold nparts;have:=Nat.lt_mul_div_succ (b.size+S.r0-1) (show 0<S.r0 by omega);rw[Nat.mul_comm,Nat.add_mul,Nat.one_mul]at this;omega
theorem Blob.plen {S:Spa} {n:Nat} {b:ByteArray} {ks:List Nat} (h:Blob S n b ks) (hd:uK S):(zY S n).length<=100000/\∀ p∈zY S n,p.1.size<=5000:=by
 obtain⟨q0,q1,q2,q3⟩:=xJ hd;rw[h.parts (by omega)];have hn:=zcm q1 h.most;rw[<- h.len]at hn;refine⟨by rw[length_map,length_range];omega,fun p hp=>?_⟩;obtain⟨t,ht,rfl⟩:=mem_map.1 hp;have hp:=zci (r:=S.r0) (b:=b) (i:=t) (by omega) (by rw[<- h.len];exact mem_range.1 ht);show(part S.r0 b t).size<=5000;omega
end V
/- Spaces after pages were put:plain. catalog.pages,spots. -/
namespace V
open Go Go.Proofs Go.RowKit Crc
theorem Great.made {S S':Spa} {R R' H ls:List Nat} {M:Option (List Nat)} (h:Great S R H M) (hm:Mk S S' ls) (hg:Good S' R') (hr:S.sup.pages.length<=S'.zQ):Great S' R' H M:=by
 have hN:=hm.N;have hb:=h.good.dims.blocks;have hn:=h.good.dims.n;have ho:=h.heldOK;have hP:=ho.zfZ h.good;have hslot:∀ j:Int,j=0\/j=1->(S'.dev.read j).1=(S.dev.read j).1:=fun j hj=>hm.read j (by omega) (by omega) (fun hk=>by have:=(hm.mem hk).2.1;omega);refine⟨hg,⟨?_,?_,?_,?_,?_,?_⟩,?_,?_,?_⟩
 ·rw[hm.slot];exact ho.slot
 ·rw[hm.sup];exact ho.chk
 ·rw[hm.slot,hm.sup,hslot _ ho.slot];exact ho.cur
 ·rw[hm.slot,hm.sup,hslot _ (by unfold other;split<;>simp)];exact ho.old
 ·intro i hi;rw[hm.sup]at hi ⊢;have hmem:S.sup.pages.getD i 0∈S.sup.pages:=by rw[getD_eq_getElem?_getD,List.getElem?_eq_getElem hi];exact getElem_mem _
  have hlt:=(h.good.well.pgs _ hmem).2.1;rw[hm.held,hm.dim.1,hm.read _ (by omega) (by omega) ?_]
  ·exact ho.pgs i hi
  ·intro hk;rw[Int.toNat_natCast]at hk;have:=(zP.1 (hm.mem hk).2.2).1;have:=(hP.at_ _ hmem).2.2;omega
 ·rw[hm.held];exact ho.fit
 ·rw[hN,hm.sup,hm.held];exact ya.uL h.hwell (fun m hu=>hm.other m (h.hwell.lt hu) (fun hk=>by
   have:=(zP.1 (hm.mem hk).2.2).2.1
   have:=(zI.1 hu).2.2;omega))
 ·rw[hN,hm.sup,hm.mark];exact h.mwell.uL (fun m hc _ hmN=>hm.other m hmN (fun hk=>hc (zP.1 (hm.mem hk).2.2).2.2))
 ·rw[hm.sup];exact hr
variable {w w':World} {b db:Nat} {S:Spa} {F:Nat->Prop} {R H:List Nat} {M:Option (List Nat)}
open Classical in
noncomputable def zdI (r:Nat) (w:World):Nat:=if w.cell? ⟨r,0,none⟩=some (.int .u8 3) then 1 else 0
theorem zpc {r:Nat} {p:Page} {y:SLC} {ty:TypeId} (h:Blk w r (pgV p y) ty) (hp:p.1≠3):zdI r w=0:=by
 unfold zdI;rw[h.cell,if_neg];intro e;have e:(Value.int .u8 (p.1.toNat:Int))=.int .u8 3:=Option.some.inj e;injection e with _ e
 exact hp (UInt8.toNat_inj.1 (by show _=3;omega))
theorem zpd {r:Nat} {p:Page} {y:SLC} {ty:TypeId} (h:Blk w r (pgV p y) ty) (hp:p.1=3):zdI r w=1:=by
 unfold zdI;rw[h.cell,if_pos];show some (Value.int .u8 (p.1.toNat:Int))=_;rw[hp];rfl
theorem zcv (h:zV w b db S F) {n:Nat} {res:Bool} (hn:n<4294967296) (h0:(S.get n).2=0)
  (hp:((S.get n).1.1≠3/\res=decide ((S.get n).1.1=5))\/((S.get n).1.1=3/\∃ k r,(S.get n).1.2.1=k::r/\k<4294967296/\(S.get k).2=0/\(S.get k).1.1≠3/\res=decide ((S.get k).1.1=5))):
  Calls prog 81 #[.pointer (some ⟨b,0,none⟩),.int .u32 (n:Int)] w (Ret fun v w'=>v=.bool res/\Ext w w'):=by
 apply zn7;unfold S81;refine zb (zgU h hn) ?_;rintro _ w1 ⟨y,rfl,ho,he1⟩;refine⟨(pgT (S.get n).1 y,(S.get n).2,()),rfl,?_⟩;refine yn (vs:=pgV (S.get n).1 y) (by rfl) (jU _ _) (fun r2 w2 hb2 he2 hr2=>?_) (by rfl);have ho2:=ho.ext he2;have he:=he1.trans he2;have hs1:=he1.size;rw[h0];refine⟨fun t w'=>t=((0:Int),())/\Ext w w'/\∃ (p:Page) (y:SLC),Blk w' r2 (pgV p y) 56/\((p.1≠3/\res=decide (p.1=5))\/(p.1=3/\∃ k r,p.2.1=k::r/\k<4294967296/\(S.get k).2=0/\(S.get k).1.1≠3/\res=decide ((S.get k).1.1=5)/\Sli (zu .u32) w' y.1 y.2.1 p.2.1)),fun _ w'=>zdI r2 w',⟨rfl,he,(S.get n).1,y,hb2,?_⟩,?_⟩
 ·rcases hp with hp|⟨hp,k,r,e1,e2,e3,e4,e5⟩
  ·exact .inl hp
  ·exact .inr ⟨hp,k,r,e1,e2,e3,e4,e5,ho2.sl⟩
 rintro _ w3 ⟨rfl,he3,p,y',hb3,hc⟩;refine zf (by rfl) (zF ((p.1.toNat:Nat):Int) hb3 (by rfl) ?_);rcases hc with ⟨h3,hres⟩|⟨h3,k,r,e1,e2,e3,e4,e5,hsl⟩
 ·refine zd (beq_eq_false_iff_ne.2 (fun e=>h3 (UInt8.toNat_inj.1 (by show _=3;omega)))) (zf (by rfl) ?_);refine zF ((p.1.toNat:Nat):Int) hb3 (by rfl) ⟨?_,he3⟩;rw[hres];congr 1;rw[Bool.eq_iff_iff,beq_iff_eq,decide_eq_true_iff];constructor
  ·intro e;exact UInt8.toNat_inj.1 (by show _=5;omega)
  ·intro e;rw[e];rfl
 ·refine zf (by rw[h3];rfl) (zn 1 y' hb3 (by rfl) ?_);rw[e1]at hsl;have hl:(k::r).length=y'.2.1:=hsl.len;have hle:=hsl.le;simp only [length_cons]at hl;refine zU hsl (by omega) (by omega) ?_;show ze _ _ [_,.int .u32 ((k:Nat):Int)] _ _ w3;refine zb (zgU (h.ext he3) e2) ?_;rintro _ w4 ⟨y4,rfl,ho4,he4⟩;refine⟨(pgT (S.get k).1 y4,(S.get k).2,()),rfl,?_⟩;have hb4:=hb3.ext he4;refine refill (vs:=pgV (S.get k).1 y4) hb4 (by rfl) (jU _ _) (by rfl) ?_;intro w5 hb5 hx5 hk5 hz5;refine⟨⟨by rw[e3],hx5 w (he3.trans he4) (by omega),_,y4,hb5,.inl ⟨e4,e5⟩⟩,?_⟩;show zdI r2 w5<zdI r2 w3;rw[zpc hb5 e4,zpd hb3 h3];omega
theorem zkP (hg:Good S R) {n:Nat} {ks vs:List Nat} (ht:vb S n ks vs) (hu:zE S.sup.pages S.now n=true):(S.get n).2=0/\((((S.get n).1.1≠3/\true=decide ((S.get n).1.1=5))\/((S.get n).1.1=3/\∃ k r,(S.get n).1.2.1=k::r/\k<4294967296/\(S.get k).2=0/\(S.get k).1.1≠3/\true=decide ((S.get k).1.1=5)))):=by
 cases ht with
 |one hA=>
  rw[(hA.get hg hu).1];exact⟨rfl,.inl ⟨show(5:UInt8)≠3 by decide,rfl⟩⟩
 |two m a c h1 h2 h3 h4 h5 h6 h7 h8=>
  have hkid:z6 S.page n=[a,c]:=by unfold z6;rw[h6]
  have hua:=((hg.well.good n hu).2 a (by rw[hkid];simp));obtain⟨a1,a2,a3⟩:=h7.get hg hua;rw[(hg.get hu).1,h6];refine⟨rfl,.inr ⟨rfl,a,[c],rfl,a3,?_⟩⟩;rw[a1];exact⟨rfl,show(5:UInt8)≠3 by decide,rfl⟩
end V
/- Contracts of the package catalog:spots. -/
namespace V
open Go Go.Proofs Go.RowKit Crc
variable {w w':World}
def spE:Enc (Nat×Addr) where
 k:=2
 f p:=[.int .u64 (p.1:Int),.pointer (some p.2)]
 len _:=rfl
 one _:=by
  intro v hv
  simp only [mem_cons,not_mem_nil,or_false]at hv
  rcases hv with rfl|rfl<;>rfl
 pos:=by decide
theorem zfE:jR prog 135 140 (.agg #[.int .u64 0,.pointer none]) 2 16:=⟨by kernel_rfl,by kernel_rfl,by kernel_rfl⟩
def adr (A:Option Addr):Addr:=A.getD ⟨0,0,none⟩
def vd (A:Option Addr) (i:Nat):Addr:=((adr A).add (i*5)).add 2
def ve (A:Option Addr) (i:Nat):Addr:=((adr A).add (i*2)).add 1
abbrev Spt:=Nat×Addr×Nat
def spT (A:Option Addr) (es:List Ent) (i:Nat):List Spt:=(List.range i).filterMap fun j=>if (es.getD j yb).2.2.1=0 then none else some (1+j,vd A j,(es.getD j yb).2.2.1)
def spS (A:Option Addr) (ss:List Snp) (i:Nat):List Spt:=(List.range i).filterMap fun j=>if (ss.getD j ym).2=0 then none else some (100+j,ve A j,(ss.getD j ym).2)
def zL (x y:SLC) (c:Cat):List Spt:=spT x.1 c.1 c.1.length++spS y.1 c.2 c.2.length
def spP (p:Spt):Nat×Addr:=(p.1,p.2.1)
theorem jK (A:Option Addr) (es:List Ent) (i:Nat):spT A es (i+1)=spT A es i++(if (es.getD i yb).2.2.1=0 then [] else [(1+i,vd A i,(es.getD i yb).2.2.1)]):=by
 unfold spT;rw[range_succ,List.filterMap_append];congr 1
 by_cases h:(es.getD i yb).2.2.1=0
 ·rw[if_pos h,List.filterMap_cons,if_pos h];rfl
 ·rw[if_neg h,List.filterMap_cons,if_neg h];rfl
theorem jL (A:Option Addr) (ss:List Snp) (i:Nat):spS A ss (i+1)=spS A ss i++(if (ss.getD i ym).2=0 then [] else [(100+i,ve A i,(ss.getD i ym).2)]):=by
 unfold spS;rw[range_succ,List.filterMap_append];congr 1
 by_cases h:(ss.getD i ym).2=0
 ·rw[if_pos h,List.filterMap_cons,if_pos h];rfl
 ·rw[if_neg h,List.filterMap_cons,if_neg h];rfl
theorem ze7 (A:Option Addr) (es:List Ent) (i:Nat):(spT A es i).length<=i:=by
 have:=List.length_filterMap_le (fun j=>if (es.getD j yb).2.2.1=0 then none else some (1+j,vd A j,(es.getD j yb).2.2.1)) (List.range i)
 rwa [length_range]at this
theorem ziH (A:Option Addr) (ss:List Snp) (i:Nat):(spS A ss i).length<=i:=by
 have:=List.length_filterMap_le (fun j=>if (ss.getD j ym).2=0 then none else some (100+j,ve A j,(ss.getD j ym).2)) (List.range i)
 rwa [length_range]at this
theorem vL {r:Nat} {t:TypeId} {x y:SLC} {c:Cat} (hb:Blk w r (zN x y) t) (h:xo w x y c) (h1:c.1.length<=1000) (h2:c.2.length<=1000):
  Calls prog 83 #[.pointer (some ⟨r,0,none⟩)] w (Ret fun v w'=>∃ A k,v=.slice A (zL x y c).length k/\Owni spE 140 w' w.heap.size A (zL x y c).length k ((zL x y c).map spP)/\Ext w w'):=by
 obtain⟨⟨raws,hT⟩,hs,hcx,hcy⟩:=h;have hxl:=hT.sl.len;have hyl:=hs.len;have hlr:=hT.len;apply zn9;unfold S83;refine zs (zF x hb (by rfl) ?_);refine zz (fun q w'=>∃ (i:Nat) (A:Option Addr) (k:Nat),i<=c.1.length/\q=((A,(spT x.1 c.1 i).length,k),(i:Int),())/\Ext w w'/\Owni spE 140 w' w.heap.size A (spT x.1 c.1 i).length k ((spT x.1 c.1 i).map spP)) (fun q=>(c.1.length-q.2.1).toNat) ⟨0,none,0,by omega,rfl,Ext.refl _,Owni.nil _ _ _⟩ ?_;rintro _ w1 ⟨i,A,k,hi,rfl,he1,ho⟩;dsimp only;have hb1:=hb.ext he1
 by_cases hlt:i<c.1.length
 ·refine zf (decide_eq_true (by omega)) (zs (zF x hb1 (by rfl) ?_));refine zcC (E:=yu) 2 (fun e:Raw=>((e.2.2.1:Nat):Int)) yl (hT.sl.ext he1) (fun _=>rfl) rfl (by omega) (by omega) ?_;rw[Int.toNat_natCast,show(raws.getD i yl).2.2.1=(c.1.getD i yb).2.2.1 by rw[(hT.at_ i hlt).rest]];have hw:wrap .i64 ((i:Int)+1)=((i+1:Nat):Int):=by rw[wrap_i64 (by omega) (by omega)];rfl
  have hn:=ze7 x.1 c.1 i;have hsu:=jK x.1 c.1 i;refine zg (fun hq=>?_) (fun hq=>?_)
  ·have hq:¬(c.1.getD i yb).2.2.1=0:=fun e=>by rw[e]at hq;cases hq
   rw[if_neg hq]at hsu;refine zs (zF x hb1 (by rfl) (zK ⟨by omega,by omega⟩ ?_));obtain⟨a,ha,hsp,hcs⟩:=hT.sl.2.2 (by omega);refine⟨a,ha,?_⟩;show zh _ _ _;have hkey:wrap .u64 (wrap .i64 (1+(i:Int)))=((1+i:Nat):Int):=by rw[wrap_i64 (by omega) (by omega),show(1:Int)+(i:Int)=((1+i:Nat):Int) by omega,zx (by omega)]
   rw[hkey,hw];have hadr:(a.add (i*5)).add 2=vd x.1 i:=by unfold vd adr;rw[ha];rfl
   rw[hadr];refine xa (E:=spE) (ys:=[(1+i,vd x.1 i)]) (by rfl) rfl zfE ho he1.size (by omega) (by omega) ?_;intro A2 k2 w2 ho2 hg2;refine⟨⟨i+1,A2,k2,by omega,?_,he1.grown hg2.grown ho.row,?_⟩,by omega⟩
   ·rw[hsu,length_append];rfl
   ·rw[hsu,length_append,map_append];exact ho2
  ·have hq:(c.1.getD i yb).2.2.1=0:=by have:=bne_eq_false_iff_eq.1 hq;omega
   rw[if_pos hq,append_nil]at hsu;rw[hw];exact⟨⟨i+1,A,k,by omega,by rw[hsu],he1,by rw[hsu];exact ho⟩,by omega⟩
 ·obtain rfl:i=c.1.length:=by omega
  refine zd (decide_eq_false (by omega)) (zs (zn 1 y hb1 (by rfl) ?_));have hn1:=ze7 x.1 c.1 c.1.length;have hnil:spT x.1 c.1 c.1.length++spS y.1 c.2 0=spT x.1 c.1 c.1.length:=by simp[spS]
  refine zz (fun q w'=>∃ (i:Nat) (A:Option Addr) (k:Nat),i<=c.2.length/\q=((A,(spT x.1 c.1 c.1.length++spS y.1 c.2 i).length,k),(i:Int),())/\Ext w w'/\Owni spE 140 w' w.heap.size A (spT x.1 c.1 c.1.length++spS y.1 c.2 i).length k ((spT x.1 c.1 c.1.length++spS y.1 c.2 i).map spP)) (fun q=>(c.2.length-q.2.1).toNat) ⟨0,A,k,by omega,by rw[hnil];rfl,he1,by rw[hnil];exact ho⟩ ?_;rintro _ w2 ⟨i,A,k,hi,rfl,he2,ho⟩;dsimp only;have hb2:=hb.ext he2
  by_cases hlt:i<c.2.length
  ·refine zf (decide_eq_true (by omega)) (zs (zn 1 y hb2 (by rfl) ?_));refine zcC (E:=qc) 1 (fun e:Snp=>((e.2:Nat):Int)) ym (hs.ext he2) (fun _=>rfl) rfl (by omega) (by omega) ?_;rw[Int.toNat_natCast];have hw:wrap .i64 ((i:Int)+1)=((i+1:Nat):Int):=by rw[wrap_i64 (by omega) (by omega)];rfl
   have hn:=ziH y.1 c.2 i;have hsu:=jL y.1 c.2 i;have hnl:(spT x.1 c.1 c.1.length++spS y.1 c.2 i).length<=2000:=by rw[length_append];omega
   refine zg (fun hq=>?_) (fun hq=>?_)
   ·have hq:¬(c.2.getD i ym).2=0:=fun e=>by rw[e]at hq;cases hq
    rw[if_neg hq]at hsu;refine zs (zn 1 y hb2 (by rfl) (zK ⟨by omega,by omega⟩ ?_));obtain⟨a,ha,hsp,hcs⟩:=hs.2.2 (by omega);refine⟨a,ha,?_⟩;show zh _ _ _;have hkey:wrap .u64 (wrap .i64 (100+(i:Int)))=((100+i:Nat):Int):=by rw[wrap_i64 (by omega) (by omega),show(100:Int)+(i:Int)=((100+i:Nat):Int) by omega,zx (by omega)]
    rw[hkey,hw];have hadr:(a.add (i*2)).add 1=ve y.1 i:=by unfold ve adr;rw[ha];rfl
    rw[hadr];refine xa (E:=spE) (ys:=[(100+i,ve y.1 i)]) (by rfl) rfl zfE ho he2.size (by omega) (by omega) ?_;intro A2 k2 w3 ho3 hg3;refine⟨⟨i+1,A2,k2,by omega,?_,he2.grown hg3.grown ho.row,?_⟩,by omega⟩
    ·rw[hsu,<- append_assoc,length_append (bs:=[_])];rfl
    ·rw[hsu,<- append_assoc,length_append (bs:=[_]),map_append (l₂:=[_])];exact ho3
   ·have hq:(c.2.getD i ym).2=0:=by have:=bne_eq_false_iff_eq.1 hq;omega
    rw[if_pos hq,append_nil]at hsu;rw[hw];exact⟨⟨i+1,A,k,by omega,by rw[hsu],he2,by rw[hsu];exact ho⟩,by omega⟩
  ·obtain rfl:i=c.2.length:=by omega
   refine zd (decide_eq_false (by omega)) ?_;exact⟨A,k,rfl,ho,he2⟩
end V
/- Catalogs as trees:plain. -/
namespace V
open Go Go.Proofs Go.RowKit Crc
def kvC (c:Cat):List (Nat×Nat):=(zL (none,0,0) (none,0,0) c).map fun p=>(p.1,p.2.2)
def qK (c:Cat):List Nat:=(kvC c).map fun p=>p.1
def z7 (c:Cat):List Nat:=(kvC c).map fun p=>p.2
theorem zhb (A A':Option Addr) (es:List Ent):∀ i,(spT A es i).map (fun p=>(p.1,p.2.2))=(spT A' es i).map fun p=>(p.1,p.2.2)
 |0=>rfl
 |i+1=>by
  rw[jK,jK,map_append,map_append,zhb A A' es i];congr 1;split<;>rfl
theorem zhc (A A':Option Addr) (ss:List Snp):∀ i,(spS A ss i).map (fun p=>(p.1,p.2.2))=(spS A' ss i).map fun p=>(p.1,p.2.2)
 |0=>rfl
 |i+1=>by
  rw[jL,jL,map_append,map_append,zhc A A' ss i];congr 1;split<;>rfl
theorem zbt (x y:SLC) (c:Cat):(zL x y c).map (fun p=>(p.1,p.2.2))=kvC c:=by
 unfold kvC zL;rw[map_append,map_append,zhb x.1 none,zhc y.1 none]
theorem zag (x y:SLC) (c:Cat):(zL x y c).length=(kvC c).length:=by rw[<- zbt x y c,length_map]
theorem zhd (c:Cat):(kvC c).length<=c.1.length+c.2.length:=by
 rw[<- zag (none,0,0) (none,0,0)];unfold zL;rw[length_append];have:=ze7 none c.1 c.1.length;have:=ziH none c.2 c.2.length;dsimp only;omega
theorem zhe (es:List Ent):∀ i,((spT none es i).map fun p=>p.1).Pairwise (· < ·)/\∀ k∈(spT none es i).map (fun p=>p.1),1<=k/\k<=i
 |0=>⟨.nil,by simp[spT]⟩
 |i+1=>by
  obtain⟨h1,h2⟩:=zhe es i;rw[jK,map_append];constructor
  ·rw[List.pairwise_append];refine⟨h1,by split<;>simp,fun a ha b hb=>?_⟩;have:=h2 a ha;split at hb
   ·simp at hb
   ·simp at hb;omega
  ·intro k hk;rcases mem_append.1 hk with e|e
   ·have:=h2 k e;omega
   ·split at e
    ·simp at e
    ·simp at e;omega
theorem zhf (ss:List Snp):∀ i,((spS none ss i).map fun p=>p.1).Pairwise (· < ·)/\∀ k∈(spS none ss i).map (fun p=>p.1),100<=k/\k<100+i
 |0=>⟨.nil,by simp[spS]⟩
 |i+1=>by
  obtain⟨h1,h2⟩:=zhf ss i;rw[jL,map_append];constructor
  ·rw[List.pairwise_append];refine⟨h1,by split<;>simp,fun a ha b hb=>?_⟩;have:=h2 a ha;split at hb
   ·simp at hb
   ·simp at hb;omega
  ·intro k hk;rcases mem_append.1 hk with e|e
   ·have:=h2 k e;omega
   ·split at e
    ·simp at e
    ·simp at e;omega
theorem keys_eq (c:Cat):qK c=(spT none c.1 c.1.length).map (fun p=>p.1)++(spS none c.2 c.2.length).map (fun p=>p.1):=by
 unfold qK kvC zL;rw[map_map,map_append];rfl
theorem zoJ {c:Cat} (h1:c.1.length<=16) (h2:c.2.length<=16):(0::qK c).Pairwise (· < ·)/\∀ k∈0::qK c,k<200:=by
 obtain⟨a1,a2⟩:=zhe c.1 c.1.length;obtain⟨b1,b2⟩:=zhf c.2 c.2.length;rw[keys_eq];constructor
 ·rw[List.pairwise_cons,List.pairwise_append];refine⟨fun k hk=>?_,a1,b1,fun x hx y hy=>?_⟩
  ·rcases mem_append.1 hk with e|e
   ·have:=a2 k e;omega
   ·have:=b2 k e;omega
  ·have:=a2 x hx;have:=b2 y hy;omega
 ·intro k hk;rcases mem_cons.1 hk with rfl|hk
  ·omega
  ·rcases mem_append.1 hk with e|e
   ·have:=a2 k e;omega
   ·have:=b2 k e;omega
theorem zhg:∀ {l:List Nat},l.Pairwise (· < ·)->xH l=true
 |[],_=>rfl
 |[_],_=>rfl
 |a::b::r,h=>by
  rw[List.pairwise_cons]at h;show(decide (a<b)&&xH (b::r))=true;rw[decide_eq_true (h.1 b (by simp)),zhg h.2];rfl
structure znc (S:Spa) (n:Nat) (c:Cat):Prop where
 isC:ky c
 tree:∃ bn bks,vb S n (0::qK c) (bn::z7 c)/\vU S bn (V.mkB (qa c)) bks
end V
/- Contracts of the package catalog:Put. -/
namespace V
open Go Go.Proofs Go.RowKit Crc
variable {w w':World} {b db:Nat} {S:Spa} {F:Nat->Prop} {R H:List Nat} {M:Option (List Nat)}
theorem zoK (h:zV w b db S F) (hg:Great S R H M) (hpen:S.dev.pen.length<=900000) {bs:ByteArray} (hbs:bs.size<=qG S.r0) (hf:S.sup.pages.length+nparts S.r0 bs.size+1<=S.zQ):
  Calls prog 85 #[.pointer (some ⟨b,0,none⟩),.string bs] w (Ret fun v w'=>∃ (S2:Spa) (n:Nat) (ks ls:List Nat),v=.tuple #[.int .u32 (n:Int),.int .i64 0]/\Mk S S2 ls/\ls.length=nparts S.r0 bs.size+1/\Great S2 (n::R) H M/\vU S2 n bs ks/\S2.now.getD n 0=1/\yw w b db F S2 w'):=by
 obtain⟨q0,q1,q2,q3⟩:=xJ hg.good.dims;have hm:qG S.r0<=65536:=by unfold qG;omega
 obtain⟨Fd,x,hb,hr,nb,nr,m,h'⟩:=h;refine(zjw h' hg.good hpen bs (by omega)).mono (Ret.mono ?_);rintro v w' (⟨h1,_⟩|⟨_,h2,S1,S2,ks,n,hP,hO,hG,rfl,hst⟩|⟨_,h2,_⟩)
 ·omega
 ·have hB:=zoI hg.good hbs hP hO hG;have hlen:S1.now.length=S1.N:=hP.good.well.len;have hMk:Mk S S2 (ks++[n]):=hP.mk_.trans (hO.mk_ hlen);refine⟨S2,n,ks,ks++[n],rfl,hMk,by rw[length_append,hB.klen];rfl,hg.made hMk hG (by have:=hB.free;omega),hB.blob,hB.one,hst⟩
 ·omega
structure zpe (S S':Spa) (n:Nat) (c:Cat) (ls R H:List Nat) (M:Option (List Nat)):Prop where
 made:Mk S S' ls
 great:Great S' (n::R) H M
 pg:znc S' n c
 few:ls.length<=nparts S.r0 (qa c).length+4
theorem zpv {x:SLC} {raws:List Raw} {es:List Ent} (h:zaU w x raws es) {i:Nat} (hi:i<es.length):w.cell? (vd x.1 i)=some (.int .u32 ((es.getD i yb).2.2.1:Int)):=by
 have hl:=h.len;have g:raws[i]?=some (raws.getD i yl):=by rw[getD_eq_getElem?_getD,List.getElem?_eq_getElem (by omega)];rfl
 obtain⟨a,ha,hsp,hc⟩:=h.sl.at_ g;obtain⟨_,_,h2,_⟩:=hc;have:vd x.1 i=(a.add (i*5)).add 2:=by unfold vd adr;rw[ha];rfl
 rw[this,<- (h.at_ i hi).rest];exact h2
theorem zpw {y:SLC} {ss:List Snp} (h:Sli qc w y.1 y.2.1 ss) {i:Nat} (hi:i<ss.length):w.cell? (ve y.1 i)=some (.int .u32 ((ss.getD i ym).2:Int)):=by
 have g:ss[i]?=some (ss.getD i ym):=by rw[getD_eq_getElem?_getD,List.getElem?_eq_getElem hi];rfl
 obtain⟨a,ha,hsp,hc⟩:=h.at_ g;obtain⟨_,h1,_⟩:=hc;have:ve y.1 i=(a.add (i*2)).add 1:=by unfold ve adr;rw[ha];rfl
 rw[this];exact h1
theorem zaD {x y:SLC} {c:Cat} (h:xo w x y c):∀ p∈zL x y c,w.cell? p.2.1=some (.int .u32 (p.2.2:Int)):=by
 obtain⟨⟨raws,hT⟩,hs,_⟩:=h;intro p hp;unfold zL at hp;rcases mem_append.1 hp with e|e
 ·unfold spT at e;obtain⟨i,hi,e⟩:=List.mem_filterMap.1 e;rw[mem_range]at hi;split at e
  ·cases e
  ·injection e with e
   subst e;exact zpv hT hi
 ·unfold spS at e;obtain⟨i,hi,e⟩:=List.mem_filterMap.1 e;rw[mem_range]at hi;split at e
  ·cases e
  ·injection e with e
   subst e;exact zpw hs hi
end V
/- Contracts of the package catalog:Put,whole. -/
namespace V
open Go Go.Proofs Go.RowKit Crc
variable {w w':World} {b db:Nat} {S:Spa} {F:Nat->Prop} {R H:List Nat} {M:Option (List Nat)}
structure ug (w0 w:World) (A1 A2:Option Addr) (n c1 c2:Nat) (ks vs:List Nat):Prop where
 ext:Ext w0 w
 ks:Owni (zu .u64) 42 w w0.heap.size A1 n c1 ks
 vs:Owni (zu .u64) 42 w w0.heap.size A2 n c2 vs
 ne:∀ j,orow A1=some j->orow A2≠some j
theorem ug.ext' {w0:World} {A1 A2:Option Addr} {n c1 c2:Nat} {ks vs:List Nat} (h:ug w0 w A1 A2 n c1 c2 ks vs) (he:Ext w w'):ug w0 w' A1 A2 n c1 c2 ks vs:=⟨h.ext.trans he,h.ks.ext he,h.vs.ext he,h.ne⟩
theorem zdJ {w0:World} {A1 A2:Option Addr} {n c1 c2 k rk:Nat} {ks vs:List Nat} {t1:TypeId} {K1:SLC->WP} (h:ug w0 w A1 A2 n c1 c2 ks vs) (hk:Blk w rk [.int .u64 (k:Int)] t1) (hn:n<=1000000)
  (hK:∀ A1' c1' w1,Owni (zu .u64) 42 w1 w0.heap.size A1' (n+1) c1' (ks++[k])->Owni (zu .u64) 42 w1 w0.heap.size A2 n c2 vs->(∀ j,orow A1'=some j->orow A2≠some j)->Ext w0 w1->w.heap.size<=w1.heap.size->(∀ q,orow A1≠some q->q<w.heap.size->w1.heap[q]?=w.heap[q]?)->K1 (A1',n+1,c1') w1):
  zw prog (Builtin.append_ #[129,129] 129 #[.slice A1 n c1,.slice (some (aD rk)) 1 1]) .slc K1 w:=by
 have hx:Sli (zu .u64) w (some ⟨rk,0,none⟩) 1 [k]:=Sli.xC (E:=zu .u64) (xs:=[k]) hk rfl (by omega);refine xc kE h.ks h.ext.size hx (by omega) (by omega) ?_;intro A1' c1' w1 ho hg _;have hs:=hg.grown.size;refine hK A1' c1' w1 ho (h.vs.grown hg.grown (fun j hj=>h.ne j hj)) (fun j hj e=>?_) (h.ext.grown hg.grown h.ks.row) hs (fun q hq hlt=>hg.grown.block q hlt (fun e=>hq e.symm));rcases hg.next j hj with e1|e1
 ·exact h.ne j e1 e
 ·have:=h.vs.yc j e;omega
theorem zdK {w0:World} {A1 A2:Option Addr} {n c1 c2 v rv:Nat} {ks vs:List Nat} {t2:TypeId} {K1:SLC->WP} (h1:Owni (zu .u64) 42 w w0.heap.size A1 (n+1) c1 ks) (h2:Owni (zu .u64) 42 w w0.heap.size A2 n c2 vs) (hne:∀ j,orow A1=some j->orow A2≠some j) (he:Ext w0 w) (hv:Blk w rv [.int .u64 (v:Int)] t2) (hn:n<=1000000)
  (hK:∀ A2' c2' w1,ug w0 w1 A1 A2' (n+1) c1 c2' ks (vs++[v])->w.heap.size<=w1.heap.size->(∀ q,orow A2≠some q->q<w.heap.size->w1.heap[q]?=w.heap[q]?)->K1 (A2',n+1,c2') w1):
  zw prog (Builtin.append_ #[129,129] 129 #[.slice A2 n c2,.slice (some (aD rv)) 1 1]) .slc K1 w:=by
 have hx:Sli (zu .u64) w (some ⟨rv,0,none⟩) 1 [v]:=Sli.xC (E:=zu .u64) (xs:=[v]) hv rfl (by omega);refine xc kE h2 he.size hx (by omega) (by omega) ?_;intro A2' c2' w1 ho hg _;have hs:=hg.grown.size;refine hK A2' c2' w1 ⟨he.grown hg.grown h2.row,h1.grown hg.grown (fun j hj e=>hne j e hj),ho,fun j hj e=>?_⟩ hs (fun q hq hlt=>hg.grown.block q hlt (fun e=>hq e.symm));rcases hg.next j e with e1|e1
 ·exact hne j hj e1
 ·have:=h1.yc j hj;omega
theorem uQ (h:zV w b db S F) {x y:SLC} {c:Cat} (hC:∀ w',Only F w w'->xo w' x y c) (hok:ku c=true) (hg:Great S (z7 c++R) H M) (hpen:S.dev.pen.length<=500000) (hr:204<=S.r0) (hmost:(qa c).length<=qG S.r0)
  (hf:S.sup.pages.length+nparts S.r0 (qa c).length+4<=S.zQ) (h6:∀ v∈z7 c,S.now.getD v 0<65535):
  Calls prog 27 #[.pointer (some ⟨b,0,none⟩),.agg (zN x y).toArray] w (Ret fun v w'=>(c=vz/\v=.tuple #[.int .u32 0,.int .i64 0]/\yw w b db F S w')\/(c≠vz/\∃ (S':Spa) (n:Nat) (ls:List Nat),v=.tuple #[.int .u32 (n:Int),.int .i64 0]/\zpe S S' n c ls R H M/\yw w b db F S' w')):=by
 obtain⟨q0,q1,q2,q3⟩:=xJ hg.good.dims;have hIs:=vT.1 hok;have ht16:=hIs.tabs;have hs16:=hIs.snaps;have hFlt:=h.lt;have hC0:=hC w (Only.refl F w);have hxl:c.1.length=x.2.1:=by obtain⟨⟨raws,hT⟩,_⟩:=hC0;rw[<- hT.len];exact hT.sl.len
 have hyl:c.2.length=y.2.1:=hC0.2.1.len;apply znA;unfold S27;refine zr fun r1 w1 hb1 he1 hr1 hz1=>?_;have hb1:Blk w1 r1 (zN x y) 25:=hb1;have hr1F:¬F r1:=fun hf=>by have:=hFlt _ hf;omega
 refine zZ (ls:=xW) (yN x y) hb1 (by rfl) ?_;refine zb (zaW (hC0.ext he1)) ?_;rintro _ w2 ⟨rfl,he2⟩;have eB:uP c=(mkB (qa c),0):=by unfold uP;rw[if_pos hok]
 rw[eB];refine⟨(mkB (qa c),0,()),rfl,zd (by rfl) ?_⟩;have hb2:=hb1.ext he2;have he02:=he1.trans he2;refine zF x hb2 (by rfl) (zn 1 y hb2 (by rfl) ?_);rw[show wrap .i64 (((x.2.1:Nat):Int)+((y.2.1:Nat):Int))=((x.2.1+y.2.1:Nat):Int) by rw[wrap_i64 (by omega) (by omega)];omega]
 by_cases h0:c=vz
 ·refine zf (beq_iff_eq.2 ?_) (.inl ⟨h0,rfl,yw.ext h he02⟩);rw[h0]at hxl hyl;have:x.2.1=0:=hxl.symm;have:y.2.1=0:=hyl.symm;omega
 have hne:¬(x.2.1+y.2.1=0):=fun e=>h0 (Prod.ext (eq_nil_of_length_eq_zero (by omega)) (eq_nil_of_length_eq_zero (by omega)));refine zd (beq_eq_false_iff_ne.2 (by omega)) ?_;have hmk:(mkB (qa c)).size=(qa c).length:=xf _;refine zb (zoK (h.ext he02) hg (by omega) (by rw[hmk];exact hmost) (by rw[hmk];omega)) ?_;rintro _ w3 ⟨S2,bn,bks,ls,rfl,hMk,hll,hG2,hBl,hone,F3,h3,hF3,hO3⟩;refine⟨((bn:Int),0,()),rfl,zd (by rfl) ?_⟩;have hb3:=hb2.only hO3 hr1F;have hO03:Only F w w3:=Only.trans (Only.zB he02) hO3 (fun j hj=>.inl hj);have hs02:=he02.size;have hs3:=hO3.2.2.2.1;have hF30:∀ k,F3 k->F k\/w.heap.size<=k:=fun k hk=>by
  rcases hF3 k hk with e|e
  ·exact .inl e
  ·exact .inr (by omega)
 have hbn32:bn<4294967296:=by
  have:=hG2.good.well.lt (hG2.good.well.root bn mem_cons_self);have:=hG2.good.dims.n;omega
 refine ze4 (B:=w3.heap.size) (Nat.le_refl _) (by simp) fun r7 w4 hK0 he4 hr7 hz4=>?_;rw[zx (by omega)];refine ze4 (B:=w3.heap.size) (by omega) (by simp) fun r8 w5 hV0 he5 hr8 hz5=>?_;have he35:=he4.trans he5;have hC5:xo w5 x y c:=(hC w3 hO03).ext he35;have hb5:=hb3.ext he35;refine zb (vL hb5 hC5 (by omega) (by omega)) ?_;rintro _ w6 ⟨Asp,ksp,rfl,hsp,he6⟩;refine⟨(Asp,(zL x y c).length,ksp),rfl,?_⟩;have he36:=he35.trans he6;have hC6:=hC5.ext he6;have hcell:=zaD hC6;have hsl:=hsp.sl;have hkvl:=zhd c;have hspl:=zag x y c;have hkv:=zbt x y c;generalize hspots:zL x y c=sp at *;have hts:ug w3 w6 (some ⟨r7,0,none⟩) (some ⟨r8,0,none⟩) 1 1 1 [0] [bn]:=⟨he36,((show Owni (zu .u64) 42 w4 w3.heap.size (some ⟨r7,0,none⟩) 1 1 [0] from hK0).ext he5).ext he6,(show Owni (zu .u64) 42 w5 w3.heap.size (some ⟨r8,0,none⟩) 1 1 [bn] from hV0).ext he6,fun j hj e=>by
  have e1:r7=j:=Option.some.inj hj
  have e2:r8=j:=Option.some.inj e
  omega⟩
 dsimp only;have hcell3:∀ p∈sp,∀ {w9:World},Ext w3 w9->w9.cell? p.2.1=some (.int .u32 (p.2.2:Int)):=fun p hp w9 he9=>by
  have:=zaD (hC w3 hO03) p (by rw[hspots];exact hp);exact he9.cell this
 have hroot:∀ p∈sp,p.2.2∈z7 c:=fun p hp=>by
  unfold z7;rw[<- hkv,map_map];exact mem_map.2 ⟨p,hp,rfl⟩
 have hspsz:sp.length<=32:=by omega
 have hr32:∀ v∈z7 c,v<4294967296:=fun v hv=>by
  have:=hg.good.well.lt (hg.good.well.root v (mem_append_left _ hv));have:=hg.good.dims.n;omega
 refine zz (fun q w'=>∃ (i:Nat) (A1 A2:Option Addr) (c1 c2:Nat),i<=sp.length/\q=((A1,i+1,c1),(A2,i+1,c2),(i:Int),())/\ug w3 w' A1 A2 (i+1) c1 c2 (0::(sp.take i).map fun p=>p.1) (bn::(sp.take i).map fun p=>p.2.2)/\Owni spE 140 w' w5.heap.size Asp sp.length ksp (sp.map spP)) (fun q=>(sp.length-q.2.2.1).toNat) ⟨0,_,_,1,1,by omega,rfl,hts,hsp⟩ ?_;rintro _ w7 ⟨i,A1,A2,c1,c2,hi,rfl,ht7,hs7⟩;dsimp only
 by_cases hlt:i<sp.length
 ·refine zf (decide_eq_true (by omega)) ?_;have eg:(sp.map spP)[i]?=some (spP (sp[i]'hlt)):=by rw[List.getElem?_map,List.getElem?_eq_getElem hlt];rfl
  have hmem:sp[i]'hlt∈sp:=getElem_mem hlt;have tk:sp.take (i+1)=sp.take i++[sp[i]'hlt]:=take_succ_eq_append_getElem hlt;generalize sp[i]'hlt=p at *;refine xT hs7.sl (by omega) (x:=spP p) (by rw[Int.toNat_natCast];exact eg) rfl ?_;intro pa hpa hca;refine qp (ls:=[.int .u64,.ptr]) (x:=((p.1:Int),some p.2.1,())) hca ?_;refine yn (vs:=[.int .u64 (p.1:Int),.pointer (some p.2.1)]) (by rfl) (by
   intro v hv
   simp only [mem_cons,not_mem_nil,or_false]at hv
   rcases hv with rfl|rfl<;>rfl) (fun r14 w8 hb14 he8 hr14=>?_) (by rfl)
  refine zM fun w9 he9 hz9 hh9=>?_;have hb14:=hb14.ext he9;have he89:=he8.trans he9;have ht9:=ht7.ext' he89;have hs9:=hs7.ext he89;refine zF ((p.1:Nat):Int) hb14 (by rfl) (zn 1 (some p.2.1) hb14 (by rfl) (zs ?_));refine za8 (l:=.int .u32) (x:=((p.2.2:Nat):Int)) (hcell3 p hmem ht9.ext) ?_;have hv32:=hr32 _ (hroot p hmem);rw[show wrap .u64 ((p.2.2:Nat):Int)=((p.2.2:Nat):Int) from zx (by omega)];have hw:wrap .i64 ((i:Int)+1)=((i+1:Nat):Int):=by rw[wrap_i64 (by omega) (by omega)];rfl
  rw[hw];have neR:∀ {w':World} {A:Option Addr} {n c0:Nat} {xs:List Nat},Owni (zu .u64) 42 w' w3.heap.size A n c0 xs->Blk w' r14 [.int .u64 (p.1:Int),.pointer (some p.2.1)] 140->orow A≠some r14:=fun ho hb e=>Own.neB (show Own 42 _ _ _ _ _ _ from ho) hb (by decide) _ e rfl;have hp17:∀ {w':World},Ext w3 w'->HL w' [(p.2.1,.int .u32 ((p.2.2:Nat):Int))]:=fun he q hq=>by rw[mem_singleton.1 hq];exact hcell3 p hmem he
  have fin:∀ {w':World} {A1' A2':Option Addr} {c1' c2':Nat},ug w3 w' A1' A2' (i+1+1) c1' c2' ((0::(sp.take i).map fun p=>p.1)++[p.1]) ((bn::(sp.take i).map fun p=>p.2.2)++[p.2.2])->Owni spE 140 w' w5.heap.size Asp sp.length ksp (sp.map spP)->
    (∃ (j:Nat) (B1 B2:Option Addr) (d1 d2:Nat),j<=sp.length/\(((A1',i+1+1,c1'),(A2',i+1+1,c2'),((i+1:Nat):Int),()):SLC×SLC×Int×Unit)=((B1,j+1,d1),(B2,j+1,d2),(j:Int),())/\ug w3 w' B1 B2 (j+1) d1 d2 (0::(sp.take j).map fun p=>p.1) (bn::(sp.take j).map fun p=>p.2.2)/\Owni spE 140 w' w5.heap.size Asp sp.length ksp (sp.map spP)):=by
   intro w' A1' A2' c1' c2' h1 h2;refine⟨i+1,A1',A2',c1',c2',by omega,rfl,?_,h2⟩;rw[tk,map_append,map_append];exact h1
  have spk:∀ {wa wb:World} {A:Option Addr} {n c0:Nat} {xs:List Nat},Owni spE 140 wa w5.heap.size Asp sp.length ksp (sp.map spP)->Owni (zu .u64) 42 wa w3.heap.size A n c0 xs->(∀ q,orow A≠some q->q<wa.heap.size->wb.heap[q]?=wa.heap[q]?)->Owni spE 140 wb w5.heap.size Asp sp.length ksp (sp.map spP):=fun h1 h2 h3=>h1.cong (fun j hj=>h3 j (fun e=>h1.ne h2 (by decide) j hj e) (h1.yc j hj));have bk:∀ {wa wb:World} {A:Option Addr} {n c0:Nat} {xs:List Nat},Blk wa r14 [.int .u64 (p.1:Int),.pointer (some p.2.1)] 140->Owni (zu .u64) 42 wa w3.heap.size A n c0 xs->(∀ q,orow A≠some q->q<wa.heap.size->wb.heap[q]?=wa.heap[q]?)->Blk wb r14 [.int .u64 (p.1:Int),.pointer (some p.2.1)] 140:=fun h1 h2 h3=>(h3 r14 (neR h2 h1) h1.lt).trans h1;refine⟨?_,?_⟩
  ·refine zr fun r19 wa hb19 hea hra hza=>?_;have hba:=hb14.ext hea;have hta:=ht9.ext' hea;have hsa:=hs9.ext hea;refine js (hp17 hta.ext) (yM hba rfl) ?_;refine⟨?_,?_⟩
   ·refine zdJ hta hb19 (by omega) ?_;intro B1 d1 wb hkb hvb hne heb hsb hkeep;have hbb:=bk hba hta.ks hkeep;have hspb:=spk hsa hta.ks hkeep;refine js (hp17 heb) (yM hbb rfl) ?_;refine zr fun r21 wc hb21 hec hrc hzc=>?_;refine xy (yd (hbb.ext hec) rfl) ?_;refine zdK (hkb.ext hec) (hvb.ext hec) hne (heb.trans hec) hb21 (by omega) ?_;intro B2 d2 wd htd hsd hkeepd;exact⟨fin htd (spk (hspb.ext hec) (hvb.ext hec) hkeepd),by omega⟩
   ·refine zr fun r23 wb hb23 heb hrb hzb=>?_;have hbb:=hba.ext heb;have htb:=hta.ext' heb;have hspb:=hsa.ext heb;refine xy (yd hbb rfl) ?_;refine zdJ htb (hb19.ext heb) (by omega) ?_;intro B1 d1 wc hkc hvc hne hec hsc hkeep;have hbc:=bk hbb htb.ks hkeep;have hspc:=spk hspb htb.ks hkeep;refine js (hp17 hec) (yM hbc rfl) ?_;have hb23':Blk wc r23 _ _:=(hkeep r23 (fun e=>by have:=hta.ks.yc _ e;have:=hb23.lt;omega) hb23.lt).trans hb23;refine zdK hkc hvc hne hec hb23' (by omega) ?_;intro B2 d2 wd htd hsd hkeepd;exact⟨fin htd (spk hspc hvc hkeepd),by omega⟩
  ·refine zr fun r26 wa hb26 hea hra hza=>?_;have hba:=hb14.ext hea;have hta:=ht9.ext' hea;have hsa:=hs9.ext hea;refine xy (yd hba rfl) ?_;refine zr fun r27 wb hb27 heb hrb hzb=>?_;have hbb:=hba.ext heb;have htb:=hta.ext' heb;have hspb:=hsa.ext heb;refine js (hp17 htb.ext) (yM hbb rfl) ?_;refine zdJ htb hb27 (by omega) ?_;intro B1 d1 wc hkc hvc hne hec hsc hkeep;have hbc:=bk hbb htb.ks hkeep;have hspc:=spk hspb htb.ks hkeep;refine js (hp17 hec) (yM hbc rfl) ?_;have hb26b:=hb26.ext heb;have hb26':Blk wc r26 _ _:=(hkeep r26 (fun e=>by have:=ht9.ks.yc _ e;omega) hb26b.lt).trans hb26b;refine zdK hkc hvc hne hec hb26' (by omega) ?_;intro B2 d2 wd htd hsd hkeepd;exact⟨fin htd (spk hspc hvc hkeepd),by omega⟩
 ·obtain rfl:i=sp.length:=by omega
  refine zd (decide_eq_false (by omega)) ?_;rw[take_of_length_le (by omega)]at ht7;have hks:sp.map (fun p=>p.1)=qK c:=by unfold qK;rw[<- hkv,map_map];rfl
  have hvs:sp.map (fun p=>p.2.2)=z7 c:=by unfold z7;rw[<- hkv,map_map];rfl
  rw[hks,hvs]at ht7;have hkl:(qK c).length=sp.length:=by rw[<- hks,length_map]
  have hvl:(z7 c).length=sp.length:=by rw[<- hvs,length_map]
  obtain⟨hpw,hk200⟩:=zoJ ht16 hs16;have h37:=h3.ext ht7.ext;have h3lt:=h3.lt;have hs37:=ht7.ext.size;have hrow:∀ {A:Option Addr} {n c0:Nat} {xs:List Nat},Owni (zu .u64) 42 w7 w3.heap.size A n c0 xs->∀ a,A=some a->¬F3 a.block/\a.block<w7.heap.size:=fun ho a ha=>by
   have e1:=ho.row a.block (by rw[ha];rfl);have e2:=ho.yc a.block (by rw[ha];rfl);exact⟨fun hf=>by have:=h3lt _ hf;omega,e2⟩
  have hr0:S2.r0=S.r0:=hMk.r0;have hsup:=hMk.sup;have hfr:=hMk.free;have hpn:=hMk.pen;rw[hmk]at hll;have hnp:ls.length<=65537:=by
   have:=(zcm (len:=(qa c).length) q1 hmost).2;omega
  refine zb (zh0 (R:=R) (ks:=0::qK c) (vs:=bn::z7 c) (x:=(A1,sp.length+1,c1)) (y:=(A2,sp.length+1,c2)) h37 hG2 (by omega) ht7.ks.sl ht7.ks.le.1 ht7.vs.sl (hrow ht7.ks) (hrow ht7.vs) (by simp[hkl,hvl]) (fun k hk=>by have:=hk200 k hk;omega) (by simp) (by rw[hr0,length_cons];omega) (zhg hpw) (by rw[hsup];omega) (fun v hv=>?_)) ?_
  ·rcases mem_cons.1 hv with rfl|hv
   ·rw[hone];omega
   ·have hu:=hg.good.well.root v (mem_append_left _ hv);rw[(hMk.used hg.good hu).2.1];exact h6 v hv
  rintro _ w8 ⟨S',n,ls2,rfl,hB,hst⟩;refine⟨((n:Int),0,()),rfl,.inr ⟨h0,S',n,ls++ls2,rfl,⟨hMk.trans hB.made,hB.great,⟨hIs,bn,bks,hB.tree,?_⟩,?_⟩,yw.trans (Only.trans hO03 (Only.zB (F:=F) ht7.ext) (fun j hj=>.inl hj)) (fun k hk=>?_) hst⟩⟩
  ·have hub:=hG2.good.well.root bn mem_cons_self;refine hBl.keep (hB.made.r0) (fun k hk=>?_);rcases hk with rfl|hk
   ·exact(hB.made.used hG2.good hub).1
   ·have hkid:z6 S2.page bn=bks:=by unfold z6;rw[hBl.idx]
    exact(hB.made.used hG2.good ((hG2.good.well.good bn hub).2 k (by rw[hkid];exact hk))).1
  ·have:=hB.few;rw[length_append];omega
  ·rcases hF30 k hk with e|e
   ·exact .inl e
   ·exact .inr e
end V
/- Contracts of the package catalog:Get;the entries of a tree,gathered. -/
namespace V
open Go Go.Proofs Go.RowKit Crc
variable {w w':World} {b db:Nat} {S:Spa} {F:Nat->Prop}
structure Gath (w0 w:World) (r1 r5 r6:Nat) (i:Nat) (ks vs:List Nat) (A1 A2:Option Addr) (c1 c2:Nat):Prop where
 ext:Ext w0 w
 b1:Blk w r1 (zN (none,0,0) (none,0,0)) 25
 b5:Blk w r5 [.slice A1 i c1] 129
 b6:Blk w r6 [.slice A2 i c2] 54
 ks:Owni (zu .u64) 42 w (r6+1) A1 i c1 ks
 vs:Owni (zu .u32) 41 w (r6+1) A2 i c2 vs
theorem Gath.only {G:Nat->Prop} {w0:World} {r1 r5 r6 i:Nat} {ks vs:List Nat} {A1 A2:Option Addr} {c1 c2:Nat} (h:Gath w0 w r1 r5 r6 i ks vs A1 A2 c1 c2) (o:Only G w w') (h0:w0.heap.size<=r1) (hr:r1<r5/\r5<r6) (hG:∀ k,G k->r6<k/\orow A1≠some k/\orow A2≠some k):Gath w0 w' r1 r5 r6 i ks vs A1 A2 c1 c2:=
 ⟨Only.ext h.ext o (fun j hj=>by have:=(hG j hj).1;omega),h.b1.only o (fun e=>by have:=(hG _ e).1;omega),h.b5.only o (fun e=>by have:=(hG _ e).1;omega),h.b6.only o (fun e=>by have:=(hG _ e).1;omega),
  h.ks.only o (fun j hj e=>(hG j e).2.1 hj),h.vs.only o (fun j hj e=>(hG j e).2.2 hj)⟩
theorem Gath.ext' {w0:World} {r1 r5 r6 i:Nat} {ks vs:List Nat} {A1 A2:Option Addr} {c1 c2:Nat} (h:Gath w0 w r1 r5 r6 i ks vs A1 A2 c1 c2) (he:Ext w w'):Gath w0 w' r1 r5 r6 i ks vs A1 A2 c1 c2:=⟨h.ext.trans he,h.b1.ext he,h.b5.ext he,h.b6.ext he,h.ks.ext he,h.vs.ext he⟩
theorem zdL {w0:World} {r1 r5 r6 i k rk:Nat} {ks vs:List Nat} {A1 A2:Option Addr} {c1 c2:Nat} {t1:TypeId} {K1:SLC->WP} (h:Gath w0 w r1 r5 r6 i ks vs A1 A2 c1 c2) (hr:w0.heap.size<=r1/\r1<r5/\r5<r6) (hk:Blk w rk [.int .u64 (k:Int)] t1) (hn:i<=1000000)
  (hK:∀ A c w1,Owni (zu .u64) 42 w1 (r6+1) A (i+1) c (ks++[k])->Blk w1 r1 (zN (none,0,0) (none,0,0)) 25->Blk w1 r5 [.slice A1 i c1] 129->Blk w1 r6 [.slice A2 i c2] 54->Owni (zu .u32) 41 w1 (r6+1) A2 i c2 vs->Only (fun q=>orow A1=some q) w w1->(∀ q,orow A=some q->orow A1=some q\/w.heap.size<=q)->K1 (A,i+1,c) w1):
  zw prog (Builtin.append_ #[129,129] 129 #[.slice A1 i c1,.slice (some (aD rk)) 1 1]) .slc K1 w:=by
 have hx:Sli (zu .u64) w (some ⟨rk,0,none⟩) 1 [k]:=Sli.xC (E:=zu .u64) (xs:=[k]) hk rfl (by omega);refine xc kE h.ks (by have:=h.b6.lt;omega) hx (by omega) (by omega) ?_;intro A c w1 ho hg _;have hrow:=h.ks.row;exact hK A c w1 ho (h.b1.grown hg.grown (fun e=>by have:=hrow _ e.symm;omega)) (h.b5.grown hg.grown (fun e=>by have:=hrow _ e.symm;omega)) (h.b6.grown hg.grown (fun e=>by have:=hrow _ e.symm;omega)) (h.vs.grown hg.grown (fun j hj=>h.ks.ne h.vs (by decide) j hj)) (Only.z8 hg.grown (fun q hq=>.inl hq)) hg.next
theorem zev {w0:World} {r1 r5 r6 i k v z:Nat} {ks vs:List Nat} {A1 A2:Option Addr} {c1 c2:Nat} {N:WP} (h:Gath w0 w r1 r5 r6 i ks vs A1 A2 c1 c2) (hr:w0.heap.size<=r1/\r1<r5/\r5<r6) (hn:i<=1000000) (hv:wrap .u32 (v:Int)=(z:Int))
  (hN:∀ A1' A2' c1' c2' w',Gath w0 w' r1 r5 r6 (i+1) (ks++[k]) (vs++[z]) A1' A2' c1' c2'->Only (fun q=>q=r5\/q=r6\/orow A1=some q\/orow A2=some q) w w'->(∀ q,orow A1'=some q->orow A1=some q\/w.heap.size<=q)->(∀ q,orow A2'=some q->orow A2=some q\/w.heap.size<=q)->N w'):
  (zA<|ldW .slc (aD r5) fun(u14:SLC)=>ldW .slc (aD r6) fun(u15:SLC)=>
   kO (zh (.cells #[.int .u64 (k:Int)] 42) fun r16=>zq [[((aD r6),.slice u15.1 u15.2.1 u15.2.2)],[((aD r5),.slice u14.1 u14.2.1 u14.2.2)]]<|
    kO (zw prog (Builtin.append_ #[129,129] 129 #[.slice u14.1 u14.2.1 u14.2.2,.slice (some (aD r16)) 1 1]) .slc fun(u17:SLC)=>
     zq [[((aD r6),.slice u15.1 u15.2.1 u15.2.2)]]<|zh (.cells #[.int .u32 (wrap .u32 (v:Int))] 41) fun r18=>
     zq [[((aD r6),.slice u15.1 u15.2.1 u15.2.2)],[((aD r5),.slice u14.1 u14.2.1 u14.2.2)]]<|
     zw prog (Builtin.append_ #[54,54] 54 #[.slice u15.1 u15.2.1 u15.2.2,.slice (some (aD r18)) 1 1]) .slc fun(u19:SLC)=>
     stW (aD r5) (.slice u17.1 u17.2.1 u17.2.2)<|stW (aD r6) (.slice u19.1 u19.2.1 u19.2.2)<|N)
    (zh (.cells #[.int .u32 (wrap .u32 (v:Int))] 41) fun r20=>
     zq [[((aD r6),.slice u15.1 u15.2.1 u15.2.2)],[((aD r5),.slice u14.1 u14.2.1 u14.2.2)]]<|
     zw prog (Builtin.append_ #[129,129] 129 #[.slice u14.1 u14.2.1 u14.2.2,.slice (some (aD r16)) 1 1]) .slc fun(u21:SLC)=>
     zq [[((aD r6),.slice u15.1 u15.2.1 u15.2.2)]]<|
     zw prog (Builtin.append_ #[54,54] 54 #[.slice u15.1 u15.2.1 u15.2.2,.slice (some (aD r20)) 1 1]) .slc fun(u22:SLC)=>
     stW (aD r5) (.slice u21.1 u21.2.1 u21.2.2)<|stW (aD r6) (.slice u22.1 u22.2.1 u22.2.2)<|N))
   (zh (.cells #[.int .u32 (wrap .u32 (v:Int))] 41) fun r23=>
    zq [[((aD r6),.slice u15.1 u15.2.1 u15.2.2)],[((aD r5),.slice u14.1 u14.2.1 u14.2.2)]]<|
    zh (.cells #[.int .u64 (k:Int)] 42) fun r24=>zq [[((aD r6),.slice u15.1 u15.2.1 u15.2.2)],[((aD r5),.slice u14.1 u14.2.1 u14.2.2)]]<|
    zw prog (Builtin.append_ #[129,129] 129 #[.slice u14.1 u14.2.1 u14.2.2,.slice (some (aD r24)) 1 1]) .slc fun(u25:SLC)=>
    zq [[((aD r6),.slice u15.1 u15.2.1 u15.2.2)]]<|
    zw prog (Builtin.append_ #[54,54] 54 #[.slice u15.1 u15.2.1 u15.2.2,.slice (some (aD r23)) 1 1]) .slc fun(u26:SLC)=>
    stW (aD r5) (.slice u25.1 u25.2.1 u25.2.2)<|stW (aD r6) (.slice u26.1 u26.2.1 u26.2.2)<|N)) w:=by
 refine zM fun wd hed hzd hhd=>?_;have hd:=h.ext' hed;refine zF ((A1,i,c1):SLC) hd.b5 (by rfl) (zF ((A2,i,c2):SLC) hd.b6 (by rfl) ?_);rw[hv];have hs0:=hed.size
 -- the values' append, and the boxes
 have fin:∀ {A:Option Addr} {c rv:Nat} {wa wb:World} {t:TypeId},Ext wd wa->Owni (zu .u64) 42 wb (r6+1) A (i+1) c (ks++[k])->Blk wb r1 (zN (none,0,0) (none,0,0)) 25->Blk wb r5 [.slice A1 i c1] 129->Blk wb r6 [.slice A2 i c2] 54->Owni (zu .u32) 41 wb (r6+1) A2 i c2 vs->Only (fun q=>orow A1=some q) wa wb->(∀ q,orow A=some q->orow A1=some q\/wa.heap.size<=q)->Blk wb rv [.int .u32 (z:Int)] t->
   zw prog (Builtin.append_ #[54,54] 54 #[.slice A2 i c2,.slice (some (aD rv)) 1 1]) .slc (fun(u19:SLC)=>stW (aD r5) (.slice A (i+1) c)<|stW (aD r6) (.slice u19.1 u19.2.1 u19.2.2)<|N) wb:=by
  intro A c rv wa wb t hea ho g1 g5 g6 gv oab hAn hb;have hx:Sli (zu .u32) wb (some ⟨rv,0,none⟩) 1 [z]:=Sli.xC (E:=zu .u32) (xs:=[z]) hb rfl (by omega);refine xc jF gv (by have:=g6.lt;omega) hx (by omega) (by omega) ?_;intro A' c' w1 ho' hg _;have hrow:=gv.row;have e1:=g1.grown hg.grown (fun e=>by have:=hrow _ e.symm;omega);have e5:=g5.grown hg.grown (fun e=>by have:=hrow _ e.symm;omega);have e6:=g6.grown hg.grown (fun e=>by have:=hrow _ e.symm;omega);have ek:=ho.grown hg.grown (fun j hj=>gv.ne ho (by decide) j hj);have ob1:Only (fun q=>orow A2=some q) wb w1:=Only.z8 hg.grown (fun q hq=>.inl hq);refine stE (o:=0) e5 rfl (by show 0<1;omega) ?_;intro w2 f5 o2;refine stE (o:=0) (e6.only o2 (by omega)) rfl (by show 0<1;omega) ?_;intro w3 f6 o3;have hsz1:=oab.2.2.2.1;have hsz2:=hg.grown.size;have hsz0:=hea.size;have rA:=ho.row;have rA':=ho'.row;have oall:Only (fun q=>q=r5\/q=r6\/orow A1=some q\/orow A2=some q) w w3:=by
   refine Only.trans (Only.trans (Only.trans (Only.trans (Only.zB (hed.trans hea)) (oab.mono (fun q hq=>.inr (.inr (.inl hq)))) (fun q hq=>.inl hq)) (ob1.mono (fun q hq=>.inr (.inr (.inr hq)))) (fun q hq=>.inl hq)) (o2.mono (fun q hq=>.inl hq)) (fun q hq=>.inl hq)) (o3.mono (fun q hq=>.inr (.inl hq))) (fun q hq=>.inl hq)
  have k1:=h.ks.row;have k2:=h.vs.row;refine hN A A' c c' w3 ⟨Only.ext h.ext oall (fun q hq=>?_),(e1.only o2 (by omega)).only o3 (by omega),f5.only o3 (by omega),f6,(ek.only o2 (fun j hj e=>by have:=rA j hj;have:j=r5:=e;omega)).only o3 (fun j hj e=>by have:=rA j hj;have:j=r6:=e;omega),(ho'.only o2 (fun j hj e=>by have:=rA' j hj;have:j=r5:=e;omega)).only o3 (fun j hj e=>by have:=rA' j hj;have:j=r6:=e;omega)⟩ oall (fun q hq=>?_) (fun q hq=>?_)
  ·rcases hq with e|e|e|e
   ·omega
   ·omega
   ·have:=k1 q e;omega
   ·have:=k2 q e;omega
  ·rcases hAn q hq with e|e
   ·exact .inl e
   ·exact .inr (by omega)
  ·rcases hg.next q hq with e|e
   ·exact .inl e
   ·exact .inr (by omega)
 refine⟨?_,?_⟩
 ·refine zr fun r16 wa hb16 hea hra hza=>?_;have ha:=hd.ext' hea;refine js (yd ha.b6 rfl) (yd ha.b5 rfl) ?_;refine⟨?_,?_⟩
  ·refine zdL ha hr hb16 hn ?_;intro A c wb ho g1 g5 g6 gv oab hAn;refine xy (yd g6 rfl) ?_;refine zr fun r18 wc hb18 hec hrc hzc=>?_;refine js (yd (g6.ext hec) rfl) (yd (g5.ext hec) rfl) ?_;exact fin hea (ho.ext hec) (g1.ext hec) (g5.ext hec) (g6.ext hec) (gv.ext hec) (Only.trans oab (Only.zB (F:=fun q=>orow A1=some q) hec) (fun q hq=>.inl hq)) hAn hb18
  ·refine zr fun r20 wb hb20 heb hrb hzb=>?_;have hb:=ha.ext' heb;refine js (yd hb.b6 rfl) (yd hb.b5 rfl) ?_;refine zdL hb hr (hb16.ext heb) hn ?_;intro A c wc ho g1 g5 g6 gv oab hAn;refine xy (yd g6 rfl) ?_;exact fin (hea.trans heb) ho g1 g5 g6 gv oab hAn (hb20.only oab (fun e=>by have:=ha.ks.yc _ e;omega))
 ·refine zr fun r23 wa hb23 hea hra hza=>?_;have ha:=hd.ext' hea;refine js (yd ha.b6 rfl) (yd ha.b5 rfl) ?_;refine zr fun r24 wb hb24 heb hrb hzb=>?_;have hb:=ha.ext' heb;refine js (yd hb.b6 rfl) (yd hb.b5 rfl) ?_;refine zdL hb hr hb24 hn ?_;intro A c wc ho g1 g5 g6 gv oab hAn;refine xy (yd g6 rfl) ?_;exact fin (hea.trans heb) ho g1 g5 g6 gv oab hAn ((hb23.ext heb).only oab (fun e=>by have:=hd.ks.yc _ e;omega))
end V
/- A field of a row of one's own is set. -/
namespace V
open Go Go.Proofs Go.RowKit Crc
variable {w w':World} {b db:Nat} {S:Spa} {F:Nat->Prop} {R:List Nat}
theorem Enc.zhh {α:Type} (E:Enc α) {x x':α} {v:Value} {j:Nat} (hj:j<E.k) (hx:E.f x'=(E.f x).set j v):∀ (xs:List α) (i:Nat),xs[i]?=some x->(E.flat xs).set (i*E.k+j) v=E.flat (xs.set i x')
 |[],i,h=>by simp at h
 |a::r,0,h=>by
  have ha:a=x:=by simpa using h
  subst ha;show(E.f a++E.flat r).set (0*E.k+j) v=E.f x'++E.flat r;rw[Nat.zero_mul,Nat.zero_add,List.set_append_left _ _ (by rw[E.len];exact hj),hx]
 |a::r,i+1,h=>by
  have ih:=Enc.zhh E hj hx r i (by simpa using h);show(E.f a++E.flat r).set ((i+1)*E.k+j) v=E.f a++E.flat (r.set i x');rw[List.set_append_right _ _ (by rw[E.len,Nat.add_mul,Nat.one_mul];omega),E.len,show(i+1)*E.k+j-E.k=i*E.k+j by rw[Nat.add_mul,Nat.one_mul];omega,ih]
theorem Owni.stF {α:Type} {E:Enc α} {e:TypeId} {B0:Nat} {A:Option Addr} {n c i j k:Nat} {xs:List α} {x x':α} {v:Value} {K:WP} (h:Owni E e w B0 A n c xs) (hk:E.k=k) (hi:xs[i]?=some x) (hj:j<k) (hx:E.f x'=(E.f x).set j v)
  (hK:∀ w',Owni E e w' B0 A n c (xs.set i x')->Only (fun q=>orow A=some q) w w'->K w'):stW (((adr A).add (i*k)).add j) v K w:=by
 subst hk;have hl:=h.len;have hin:i<xs.length:=(List.getElem?_eq_some_iff.1 hi).1;obtain⟨g,hA⟩:∃ g,A=some ⟨g,0,none⟩:=by
  rcases h.2 with ⟨hv,h2⟩|⟨g,cap,cur,hv,_⟩
  ·have:n=0:=h2;omega
  ·injection hv with hv
   exact⟨g,hv⟩
 subst hA;have ha:((adr (some ⟨g,0,none⟩)).add (i*E.k)).add j=(⟨g,i*E.k+j,none⟩:Addr):=by
  show((aD g).add (i*E.k)).add j=_;rw[zy,zy,Nat.zero_add]
 rw[ha];have hlt:i*E.k+j<(E.flat xs).length:=by
  rw[Enc.xh];have:(i+1)*E.k<=xs.length*E.k:=Nat.mul_le_mul_right _ hin;rw[Nat.add_mul,Nat.one_mul]at this;omega
 have hst:=World.ownsRow.stored (show w.ownsRow B0 e E.k (.slice (some ⟨g,0,none⟩) n c) n (E.flat xs) from h) (i*E.k+j) v;refine⟨?_,World.ownsRow.frozenAt (show w.ownsRow B0 e E.k (.slice (some ⟨g,0,none⟩) n c) n (E.flat xs) from h) _,hK _ ?_ (Only.z8 hst.2 (fun q hq=>.inl (by injection hq with hq;rw[<- hq];rfl)))⟩
 ·rw[World.ownsRow.cellAt (show w.ownsRow B0 e E.k (.slice (some ⟨g,0,none⟩) n c) n (E.flat xs) from h) _ (by rw[<- hl,<- Enc.xh];exact hlt)];exact⟨_,List.getElem?_eq_getElem hlt⟩
 ·have:=hst.1;rw[Enc.zhh E hj hx xs i hi]at this;exact this
end V
/- Catalogs whose roots are put in one by one:plain. -/
namespace V
open Go Go.Proofs Go.RowKit Crc
def nzT (es:List Ent) (j:Nat):Nat:=(spT none es j).length
def nzS (ss:List Snp) (j:Nat):Nat:=(spS none ss j).length
theorem zbu (A:Option Addr) (es:List Ent) (j:Nat):(spT A es j).length=nzT es j:=by
 have:=congrArg List.length (zhb A none es j)
 rwa [length_map,length_map]at this
theorem zew (A:Option Addr) (ss:List Snp) (j:Nat):(spS A ss j).length=nzS ss j:=by
 have:=congrArg List.length (zhc A none ss j)
 rwa [length_map,length_map]at this
theorem zhi (es:List Ent) (j:Nat):nzT es (j+1)=nzT es j+(if (es.getD j yb).2.2.1=0 then 0 else 1):=by
 unfold nzT;rw[jK,length_append];split<;>rfl
theorem zhj (ss:List Snp) (j:Nat):nzS ss (j+1)=nzS ss j+(if (ss.getD j ym).2=0 then 0 else 1):=by
 unfold nzS;rw[jL,length_append];split<;>rfl
theorem zhk (es:List Ent) (j:Nat):∀ d,nzT es j<=nzT es (j+d)
 |0=>Nat.le_refl _
 |d+1=>Nat.le_trans (zhk es j d) (by rw[<- Nat.add_assoc,zhi];omega)
theorem zhl (ss:List Snp) (j:Nat):∀ d,nzS ss j<=nzS ss (j+d)
 |0=>Nat.le_refl _
 |d+1=>Nat.le_trans (zhl ss j d) (by rw[<- Nat.add_assoc,zhj];omega)
theorem zex {es:List Ent} {j k:Nat} (h:j<k) (hj:(es.getD j yb).2.2.1≠0):nzT es j<nzT es k:=by
 have h1:=zhk es (j+1) (k-(j+1));rw[show j+1+(k-(j+1))=k by omega,zhi,if_neg hj]at h1;omega
theorem zhm {ss:List Snp} {j k:Nat} (h:j<k) (hj:(ss.getD j ym).2≠0):nzS ss j<nzS ss k:=by
 have h1:=zhl ss (j+1) (k-(j+1));rw[show j+1+(k-(j+1))=k by omega,zhj,if_neg hj]at h1;omega
theorem zkQ {A:Option Addr} {es:List Ent}:∀ {n i:Nat} {p:Spt},(spT A es n)[i]?=some p->∃ j,j<n/\nzT es j=i/\(es.getD j yb).2.2.1≠0/\p=(1+j,vd A j,(es.getD j yb).2.2.1)
 |0,i,p,h=>by simp[spT]at h
 |n+1,i,p,h=>by
  rw[jK]at h
  by_cases hi:i<(spT A es n).length
  ·rw[List.getElem?_append_left hi]at h;obtain⟨j,h1,h2⟩:=zkQ h;exact⟨j,by omega,h2⟩
  ·rw[List.getElem?_append_right (by omega)]at h;split at h
   ·simp at h
   ·rename_i hn;have h0:i-(spT A es n).length=0:=by
     have:=(List.getElem?_eq_some_iff.1 h).1;simp at this;omega
    rw[h0]at h;refine⟨n,by omega,by rw[<- zbu A];omega,hn,?_⟩
    simpa using h.symm
theorem zkR {A:Option Addr} {ss:List Snp}:∀ {n i:Nat} {p:Spt},(spS A ss n)[i]?=some p->∃ j,j<n/\nzS ss j=i/\(ss.getD j ym).2≠0/\p=(100+j,ve A j,(ss.getD j ym).2)
 |0,i,p,h=>by simp[spS]at h
 |n+1,i,p,h=>by
  rw[jL]at h
  by_cases hi:i<(spS A ss n).length
  ·rw[List.getElem?_append_left hi]at h;obtain⟨j,h1,h2⟩:=zkR h;exact⟨j,by omega,h2⟩
  ·rw[List.getElem?_append_right (by omega)]at h;split at h
   ·simp at h
   ·rename_i hn;have h0:i-(spS A ss n).length=0:=by
     have:=(List.getElem?_eq_some_iff.1 h).1;simp at this;omega
    rw[h0]at h;refine⟨n,by omega,by rw[<- zew A];omega,hn,?_⟩
    simpa using h.symm
def vZ (b:Bool) (r:Nat):Nat:=if b then r else min r 1
def zbv (es es':List Ent) (i:Nat):Prop:=es'.length=es.length/\∀ j,j<es.length->es'.getD j yb=((es.getD j yb).1,(es.getD j yb).2.1,vZ (decide (nzT es j<i)) (es.getD j yb).2.2.1,(es.getD j yb).2.2.2.1,(es.getD j yb).2.2.2.2)
def zbw (n0:Nat) (ss ss':List Snp) (i:Nat):Prop:=ss'.length=ss.length/\∀ j,j<ss.length->ss'.getD j ym=((ss.getD j ym).1,vZ (decide (n0+nzS ss j<i)) (ss.getD j ym).2)
theorem getD_map' {α β:Type} (f:α->β) (l:List α) (j:Nat) (d:α) (d':β) (h:j<l.length):(l.map f).getD j d'=f (l.getD j d):=by
 rw[getD_eq_getElem?_getD,List.getElem?_map,List.getElem?_eq_getElem h,getD_eq_getElem?_getD,List.getElem?_eq_getElem h];rfl
theorem zpf (es:List Ent):zbv es (es.map jW) 0:=by
 refine⟨by simp,fun j hj=>?_⟩;rw[getD_map' jW es j yb yb hj,decide_eq_false (by omega)];rfl
theorem zpg (n0:Nat) (ss:List Snp):zbw n0 ss (ss.map kv) 0:=by
 refine⟨by simp,fun j hj=>?_⟩;rw[getD_map' kv ss j ym ym hj,decide_eq_false (by omega)];rfl
theorem zhn {α:Type} {l l':List α} (d:α) (h:l.length=l'.length) (hh:∀ j,j<l'.length->l.getD j d=l'.getD j d):l=l':=by
 refine List.ext_getElem h (fun j h1 h2=>?_);have:=hh j h2;rw[getD_eq_getElem?_getD,List.getElem?_eq_getElem h1,getD_eq_getElem?_getD,List.getElem?_eq_getElem h2]at this;exact this
theorem zho {es es':List Ent} {i:Nat} (h:zbv es es' i) (hi:nzT es es.length<=i):es'=es:=by
 refine zhn yb h.1 (fun j hj=>?_);rw[h.2 j hj]
 by_cases h0:(es.getD j yb).2.2.1=0
 ·rw[h0];have:vZ (decide (nzT es j<i)) 0=0:=by unfold vZ;split<;>simp
  rw[this];refine Prod.ext rfl (Prod.ext rfl (Prod.ext h0.symm rfl))
 ·have:=zex (k:=es.length) hj h0;rw[decide_eq_true (show nzT es j<i by omega)];rfl
theorem zmU {n0:Nat} {ss ss':List Snp} {i:Nat} (h:zbw n0 ss ss' i) (hi:n0+nzS ss ss.length<=i):ss'=ss:=by
 refine zhn ym h.1 (fun j hj=>?_);rw[h.2 j hj]
 by_cases h0:(ss.getD j ym).2=0
 ·rw[h0];have:vZ (decide (n0+nzS ss j<i)) 0=0:=by unfold vZ;split<;>simp
  rw[this];exact Prod.ext rfl h0.symm
 ·have:=zhm (k:=ss.length) hj h0;rw[decide_eq_true (show n0+nzS ss j<i by omega)];rfl
theorem kN {α:Type} {l:List α} {j k:Nat} {x d:α} (hj:j<l.length):(l.set j x).getD k d=if j=k then x else l.getD k d:=by
 rw[getD_eq_getElem?_getD,List.getElem?_set]
 by_cases h:j=k
 ·subst h;rw[if_pos rfl,if_pos hj,if_pos rfl];rfl
 ·rw[if_neg h,if_neg h,<- getD_eq_getElem?_getD]
theorem zbv.step {es es':List Ent} {i j:Nat} (h:zbv es es' i) (hj:j<es.length) (hi:nzT es j=i) (hn:(es.getD j yb).2.2.1≠0):zbv es (es'.set j (es.getD j yb)) (i+1):=by
 refine⟨by rw[length_set];exact h.1,fun k hk=>?_⟩;rw[kN (by rw[h.1];exact hj)]
 by_cases e:j=k
 ·subst e;rw[if_pos rfl,decide_eq_true (by omega)];rfl
 ·rw[if_neg e,h.2 k hk]
  by_cases h0:(es.getD k yb).2.2.1=0
  ·rw[h0];have:∀ b,vZ b 0=0:=fun b=>by unfold vZ;split<;>simp
   rw[this,this]
  ·have hne:nzT es k≠i:=fun e2=>by
    rcases Nat.lt_or_gt_of_ne e with hlt|hlt
    ·have:=zex hlt hn;omega
    ·have:=zex hlt h0;omega
   rw[show decide (nzT es k<i+1)=decide (nzT es k<i) from by
    by_cases h1:nzT es k<i
    ·rw[decide_eq_true h1,decide_eq_true (by omega)]
    ·rw[decide_eq_false h1,decide_eq_false (by omega)]]
theorem zbw.step {n0:Nat} {ss ss':List Snp} {i j:Nat} (h:zbw n0 ss ss' i) (hj:j<ss.length) (hi:n0+nzS ss j=i) (hn:(ss.getD j ym).2≠0):zbw n0 ss (ss'.set j (ss.getD j ym)) (i+1):=by
 refine⟨by rw[length_set];exact h.1,fun k hk=>?_⟩;rw[kN (by rw[h.1];exact hj)]
 by_cases e:j=k
 ·subst e;rw[if_pos rfl,decide_eq_true (by omega)];rfl
 ·rw[if_neg e,h.2 k hk]
  by_cases h0:(ss.getD k ym).2=0
  ·rw[h0];have:∀ b,vZ b 0=0:=fun b=>by unfold vZ;split<;>simp
   rw[this,this]
  ·have hne:n0+nzS ss k≠i:=fun e2=>by
    rcases Nat.lt_or_gt_of_ne e with hlt|hlt
    ·have:=zhm hlt hn;omega
    ·have:=zhm hlt h0;omega
   rw[show decide (n0+nzS ss k<i+1)=decide (n0+nzS ss k<i) from by
    by_cases h1:n0+nzS ss k<i
    ·rw[decide_eq_true h1,decide_eq_true (by omega)]
    ·rw[decide_eq_false h1,decide_eq_false (by omega)]]
theorem zbv.more {es es':List Ent} {i:Nat} (h:zbv es es' i) (hi:nzT es es.length<=i):zbv es es' (i+1):=by
 have e:=zho h hi;refine⟨h.1,fun j hj=>?_⟩;rw[e]
 by_cases h0:(es.getD j yb).2.2.1=0
 ·rw[h0];have:vZ (decide (nzT es j<i+1)) 0=0:=by unfold vZ;split<;>simp
  rw[this];exact Prod.ext rfl (Prod.ext rfl (Prod.ext h0 rfl))
 ·have:=zex (k:=es.length) hj h0;rw[decide_eq_true (show nzT es j<i+1 by omega)];rfl
theorem zbw.more {n0:Nat} {ss ss':List Snp} {i:Nat} (h:zbw n0 ss ss' i) (hi:i<n0):zbw n0 ss ss' (i+1):=by
 refine⟨h.1,fun j hj=>?_⟩;rw[h.2 j hj,decide_eq_false (by omega),decide_eq_false (by omega)]
end V
/- Contracts of the package catalog:Get;a root is put in. -/
namespace V
open Go Go.Proofs Go.RowKit Crc
variable {w w':World} {b db:Nat} {S:Spa} {F:Nat->Prop} {R:List Nat}
theorem zhp (A:Option Addr) (es:List Ent):∀ i,i<=es.length->(spT A (es.map jW) i).map spP=(spT A es i).map spP
 |0,_=>rfl
 |i+1,h=>by
  rw[jK,jK,map_append,map_append,zhp A es i (by omega),getD_map' jW es i yb yb (by omega)];congr 1
  by_cases h0:(es.getD i yb).2.2.1=0
  ·rw[if_pos (show(jW (es.getD i yb)).2.2.1=0 by show min _ 1=0;omega),if_pos h0]
  ·rw[if_neg (show ¬(jW (es.getD i yb)).2.2.1=0 by show ¬min _ 1=0;omega),if_neg h0];rfl
theorem zhq (A:Option Addr) (ss:List Snp):∀ i,i<=ss.length->(spS A (ss.map kv) i).map spP=(spS A ss i).map spP
 |0,_=>rfl
 |i+1,h=>by
  rw[jL,jL,map_append,map_append,zhq A ss i (by omega),getD_map' kv ss i ym ym (by omega)];congr 1
  by_cases h0:(ss.getD i ym).2=0
  ·rw[if_pos (show(kv (ss.getD i ym)).2=0 by show min _ 1=0;omega),if_pos h0]
  ·rw[if_neg (show ¬(kv (ss.getD i ym)).2=0 by show ¬min _ 1=0;omega),if_neg h0];rfl
theorem zjL (x y:SLC) (c:Cat):(zL x y (ones c)).map spP=(zL x y c).map spP:=by
 unfold zL ones;dsimp only;rw[map_append,map_append,length_map,length_map,zhp _ _ _ (Nat.le_refl _),zhq _ _ _ (Nat.le_refl _)]
theorem zmV {x y:SLC} {c:Cat} {i:Nat} {p:Spt} (h:(zL x y c)[i]?=some p):
  (∃ j,j<c.1.length/\nzT c.1 j=i/\(c.1.getD j yb).2.2.1≠0/\p=(1+j,vd x.1 j,(c.1.getD j yb).2.2.1)/\i<nzT c.1 c.1.length)\/
  (∃ j,j<c.2.length/\nzT c.1 c.1.length+nzS c.2 j=i/\(c.2.getD j ym).2≠0/\p=(100+j,ve y.1 j,(c.2.getD j ym).2)/\nzT c.1 c.1.length<=i):=by
 unfold zL at h;have hl:=zbu x.1 c.1 c.1.length
 by_cases hi:i<(spT x.1 c.1 c.1.length).length
 ·rw[List.getElem?_append_left hi]at h;obtain⟨j,h1,h2,h3,h4⟩:=zkQ h;exact .inl ⟨j,h1,h2,h3,h4,by omega⟩
 ·rw[List.getElem?_append_right (by omega)]at h;obtain⟨j,h1,h2,h3,h4⟩:=zkR h;exact .inr ⟨j,h1,by omega,h3,h4,by omega⟩
def zah (w:World) (B0:Nat) (x y:SLC) (c:Cat) (i:Nat):Prop:=(∃ raws es,yS w B0 x raws es/\zbv c.1 es i)/\∃ ss,Owni qc 46 w B0 y.1 y.2.1 y.2.2 ss/\zbw (nzT c.1 c.1.length) c.2 ss i
theorem zoL {B0:Nat} {x y:SLC} {c:Cat} (h:yg w B0 x y (ones c)):zah w B0 x y c 0:=by
 obtain⟨⟨raws,h1⟩,h2⟩:=h;exact⟨⟨raws,_,h1,zpf c.1⟩,_,h2,zpg _ c.2⟩
theorem zkS {B0:Nat} {x y:SLC} {c:Cat} {i:Nat} (h:zah w B0 x y c i) (hi:(zL x y c).length<=i):yg w B0 x y c:=by
 obtain⟨⟨raws,es,h1,h2⟩,ss,h3,h4⟩:=h;have hl:(zL x y c).length=nzT c.1 c.1.length+nzS c.2 c.2.length:=by
  unfold zL;rw[length_append,zbu,zew]
 rw[zho h2 (by omega)]at h1;rw[zmU h4 (by omega)]at h3;exact⟨⟨raws,h1⟩,h3⟩
theorem zah.ext {B0:Nat} {x y:SLC} {c:Cat} {i:Nat} (h:zah w B0 x y c i) (he:Ext w w'):zah w' B0 x y c i:=by
 obtain⟨⟨raws,es,h1,h2⟩,ss,h3,h4⟩:=h;exact⟨⟨raws,es,h1.ext he,h2⟩,ss,h3.ext he,h4⟩
theorem zph {B0:Nat} {x y:SLC} {c:Cat} {i:Nat} {p:Spt} {K:WP} (h:zah w B0 x y c i) (hp:(zL x y c)[i]?=some p)
  (hK:∀ w',zah w' B0 x y c (i+1)->Only (fun q=>orow x.1=some q\/orow y.1=some q) w w'->K w'):stW p.2.1 (.int .u32 (p.2.2:Int)) K w:=by
 obtain⟨⟨raws,es,h1,h2⟩,ss,h3,h4⟩:=h;have hl:=h1.len;rcases zmV hp with ⟨j,j1,j2,j3,rfl,j5⟩|⟨j,j1,j2,j3,rfl,j5⟩
 ·have hj:j<raws.length:=by rw[hl,h2.1];exact j1
  have g:raws[j]?=some (raws.getD j yl):=by rw[getD_eq_getElem?_getD,List.getElem?_eq_getElem hj];rfl
  have hE:=h1.at_ j (by rw[h2.1];exact j1);have hm:=h2.2 j j1;refine Owni.stF (x':=((raws.getD j yl).1,(raws.getD j yl).2.1,(c.1.getD j yb).2.2.1,(raws.getD j yl).2.2.2.1,(raws.getD j yl).2.2.2.2)) h1.row (k:=5) rfl g (by omega) (by rfl) ?_;intro w2 ho2 o2;refine hK w2 ⟨⟨_,_,⟨ho2,by rw[length_set,length_set];exact hl,fun k hk=>?_⟩,h2.step j1 j2 j3⟩,ss,h3.only o2 (fun q hq e=>h3.ne h1.row (by decide) q hq e),h4.more j5⟩ (o2.mono (fun q hq=>.inl hq));rw[length_set]at hk;rw[kN hj,kN (by rw[h2.1];exact j1)];have hc:∀ {r:Raw} {e:Ent},xm w B0 r e->xm w2 B0 r e:=fun hE=>⟨hE.name,hE.rest,hE.cols.only o2 (fun q hq e=>hE.cols.ne h1.row (by decide) q hq e)⟩
  by_cases e:j=k
  ·rw[if_pos e,if_pos e];have hE2:=hc hE;rw[hm]at hE2;refine⟨hE2.name,?_,hE2.cols⟩;have:=hE2.rest;dsimp only at this ⊢;rw[Prod.ext_iff]at this;rw[this.2]
  ·rw[if_neg e,if_neg e];exact hc (h1.at_ k hk)
 ·have hj:j<ss.length:=by rw[h4.1];exact j1
  have g:ss[j]?=some (ss.getD j ym):=by rw[getD_eq_getElem?_getD,List.getElem?_eq_getElem hj];rfl
  have hm:=h4.2 j j1;refine Owni.stF (x':=c.2.getD j ym) h3 (k:=2) rfl g (by omega) (by rw[hm];rfl) ?_;intro w2 ho2 o2;refine hK w2 ⟨⟨_,_,⟨h1.row.only o2 (fun q hq e=>h1.row.ne h3 (by decide) q hq e),hl,fun k hk=>?_⟩,h2.more j5⟩,_,ho2,h4.step j1 j2 j3⟩ (o2.mono (fun q hq=>.inr hq));have hE:=h1.at_ k hk;exact⟨hE.name,hE.rest,hE.cols.only o2 (fun q hq e=>hE.cols.ne h3 (by decide) q hq e)⟩
end V
/- Contracts of the package catalog:Get,whole. -/
namespace V
open Go Go.Proofs Go.RowKit Crc
variable {w w':World} {b db:Nat} {S:Spa} {F:Nat->Prop} {R:List Nat}
theorem zV.same {a c:Nat} (h:zV w b db S F) (hs:yR a c w w') (ha:¬F a) (hc:¬F c):zV w' b db S F:=
 h.only (G:=fun k=>k=a\/k=c) ⟨hs.1,hs.2.1,hs.2.2.1,Nat.le_of_eq hs.2.2.2.1.symm,fun k _ hk=>hs.2.2.2.2 k (fun e=>hk (.inl e)) (fun e=>hk (.inr e))⟩ (fun j hj e=>by rcases e with rfl|rfl;exact ha hj;exact hc hj)
theorem zoM (h:zV w b db S F) {n:Nat} {bs:ByteArray} {ks:List Nat} (hn:n<4294967296) (hd:uK S) (hB:Blob S n bs ks):Calls prog 82 #[.pointer (some ⟨b,0,none⟩),.int .u32 (n:Int)] w (Ret fun v w'=>v=.tuple #[.string bs,.int .i64 0]/\Ext w w'):=by
 obtain⟨q0,q1,q2,q3⟩:=xJ hd;obtain⟨Fd,x,hb,hr,nb,nr,m,h'⟩:=h;have hp:=hB.plen hd;refine(zjK h' hn hp.1 hp.2).mono (Ret.mono ?_);rintro v w' ⟨rfl,he⟩;rw[hB.get (by omega)];exact⟨rfl,he⟩
def zpi (w0:World) (b db:Nat) (S:Spa) (F:Nat->Prop) (r1 r5 r6 z:Nat) (ks vs:List Nat) (V:Nat->Prop) (i:Nat) (w:World):Prop:=
 zV w b db S F/\∃ A1 A2 c1 c2,Gath w0 w r1 r5 r6 i (ks.take i) (vs.take i) A1 A2 c1 c2/\(∀ k,V k\/k=z\/k=z+1->r6<k/\orow A1≠some k/\orow A2≠some k)/\z<=w.heap.size
theorem zhr {l:List Nat} {i:Nat} (h:i<l.length):l.take (i+1)=l.take i++[l.getD i 0]:=by
 rw[take_succ_eq_append_getElem h,getD_eq_getElem?_getD,List.getElem?_eq_getElem h];rfl
theorem zcw (h:zV w b db S F) (hg:Good S R) {n:Nat} {c:Cat} (hp:znc S n c) (hu:zE S.sup.pages S.now n=true):
  Calls prog 25 #[.pointer (some ⟨b,0,none⟩),.int .u32 (n:Int)] w (Ret fun v w'=>(∃ x y,v=.tuple #[.agg (zN x y).toArray,.int .i64 0]/\yg w' w.heap.size x y c)/\Ext w w'):=by
 obtain⟨hIs,bn,bks,hT,hBl⟩:=hp;have hn2:=(zI.1 hu).1;have hdN:=hg.dims.n;have hn32:n<4294967296:=by have:=hg.well.lt hu;omega
 have hkvl:=zhd c;have ht16:=hIs.tabs;have hs16:=hIs.snaps;have hkl:(qK c).length=(kvC c).length:=by unfold qK;rw[length_map]
 have hvl:(z7 c).length=(kvC c).length:=by unfold z7;rw[length_map]
 have hlen:(0::qK c).length=(bn::z7 c).length:=hT.len;have hFlt:=h.lt
 -- what the tree's values are
 have hvu:∀ v∈bn::z7 c,zE S.sup.pages S.now v=true:=by
  cases hT with
  |one hA=>exact fun v hv=>(hg.well.good n hu).2 v (by unfold z6;rw[hA.1];exact hv)
  |two m a c' h1 h2 h3 h4 h5 h6 h7 h8=>
   have hkid:z6 S.page n=[a,c']:=by unfold z6;rw[h6]
   have hua:=((hg.well.good n hu).2 a (by rw[hkid];simp));have huc:=((hg.well.good n hu).2 c' (by rw[hkid];simp));intro v hv;rw[<- List.take_append_drop m (bn::z7 c)]at hv;rcases mem_append.1 hv with e|e
   ·exact(hg.well.good a hua).2 v (by unfold z6;rw[h7.1];exact e)
   ·exact(hg.well.good c' huc).2 v (by unfold z6;rw[h8.1];exact e)
 have hv32:∀ v∈bn::z7 c,v<4294967296:=fun v hv=>by have:=hg.well.lt (hvu v hv);omega
 apply zeO;unfold S25;refine zr fun r1 w1 hb1 he1 hr1 hz1=>?_;have hb1:Blk w1 r1 (zN (none,0,0) (none,0,0)) 25:=hb1;refine zd (beq_eq_false_iff_ne.2 (by omega)) ?_;refine zb (zgX (h.ext he1) hg hT hu (by rw[length_cons];omega)) ?_;rintro _ w2 ⟨rfl,he2⟩;refine⟨_,rfl,zd (by rfl) ?_⟩;refine zr fun r5 w3 hb5 he3 hr5 hz3=>?_;refine zr fun r6 w4 hb6 he4 hr6 hz4=>?_;have he24:=he3.trans he4;have he04:=(he1.trans he2).trans he24;have hb14:=(hb1.ext he2).ext he24;have hb54:=hb5.ext he4;have hs2:=he2.size;refine zb (zeh (zju (b:=b) (db:=db) (F:=F) hg hT hu (by rw[length_cons];omega) hv32) (by omega)) ?_;rintro v w5 ⟨Q,R0,hit,hR0,hRx,hQl,hQ,he5⟩;refine⟨v,rfl,?_⟩;have hs5:=he5.size;have hL:(uN (0::qK c) (bn::z7 c)).length=(0::qK c).length:=ki hlen;generalize hKs:(0::qK c)=KS at *;generalize hVs:(bn::z7 c)=VS at *;refine zdB (fun i=>((KS.getD i 0:Int),(VS.getD i 0:Int),())) ?_ (zpi w b db S F r1 r5 r6 w5.heap.size KS VS) (fun _ _ _=>False) hit hQl (fun w' w'' hs hS=>hS.same hs (fun hf=>by have:=hFlt _ hf;omega) (fun hf=>by have:=hFlt _ hf;omega)) (fun _ _ _ _=>trivial) (fun V i w' hI=>hI.1) ?_ (fun _ _ _ _ _ hf _ _=>hf.elim) ?_ (fun o=>hRx _ _ hR0 (((Ext.refl w5).alloc _).alloc _)) ?_ ?_ (fun _ _ _ hf _ _=>hf.elim)
 ·intro i hi;exact(List.getElem?_eq_some_iff.1 (vy hlen (by rw[<- hL];exact hi))).2.symm
 ·rintro V V' i w' w'' ⟨g1,A1,A2,c1,c2,g2,g3,g4⟩ hO hV hR;have l6:=g2.b6.lt;refine⟨hR,A1,A2,c1,c2,g2.only hO (by omega) ⟨by omega,by omega⟩ g3,fun k hk=>?_,by have:=hO.2.2.2.1;omega⟩;rcases hk with hk|hk
  ·rcases hV k hk with e|e
   ·exact g3 k (.inl e)
   ·exact⟨by omega,fun e2=>by have:=g2.ks.yc _ e2;omega,fun e2=>by have:=g2.vs.yc _ e2;omega⟩
  ·exact g3 k (.inr hk)
 ·intro o;have hx:Ext w5 ((w5.alloc (.deferred (some []))).alloc o):=((Ext.refl w5).alloc _).alloc _;refine⟨(h.ext (he04.trans he5)).ext hx,none,none,0,0,⟨(he04.trans he5).trans hx,(hb14.ext he5).ext hx,(hb54.ext he5).ext hx,(hb6.ext he5).ext hx,Owni.nil _ _ _,Owni.nil _ _ _⟩,fun k hk=>⟨?_,by simp[orow,Value.ownBlock],by simp[orow,Value.ownBlock]⟩,hx.size⟩;rcases hk with hk|hk
  ·have:=hQ k hk;omega
  ·omega
 ·rintro V i hi w' G N jump hI hsz hV hVb hG;have hi':i<KS.length:=by rw[<- hL];exact hi
  refine hG _ w' hI (Nat.le_refl _) (fun _ _=>rfl) ?_;rintro w2' ⟨g1,A1,A2,c1,c2,g2,g3,g4⟩ hs2' hk2 hNC hN' hJ';dsimp only;have hKl:KS.length<=33:=by rw[<- hKs,length_cons];omega
  have hvi:VS.getD i 0<4294967296:=qz hv32 (by omega) i;refine zev (z:=VS.getD i 0) g2 ⟨by omega,by omega,by omega⟩ (by omega) (by rw[wrap_u32];omega) ?_;intro A1' A2' c1' c2' w3' g5 o5 n1 n2;have hnr:∀ k,V k\/k=w5.heap.size\/k=w5.heap.size+1->¬(k=r5\/k=r6\/orow A1=some k\/orow A2=some k)/\k<w2'.heap.size:=fun k hk=>by
   obtain⟨q1,q2,q3⟩:=g3 k hk;refine⟨fun e=>?_,?_⟩
   ·rcases e with e|e|e|e
    ·omega
    ·omega
    ·exact q2 e
    ·exact q3 e
   ·rcases hk with hk|hk
    ·have:=(hV k hk).1;omega
    ·omega
  have hsp':zV w3' b db S F:=g1.only o5 (fun j hj e=>by
   have:=hFlt j hj
   rcases e with e|e|e|e
   ·omega
   ·omega
   ·have:=g2.ks.row j e;omega
   ·have:=g2.vs.row j e;omega)
  refine hN' w3' hsp' ⟨hsp',A1',A2',c1',c2',by rw[zhr hi',zhr (by omega)];exact g5,fun k hk=>?_,by have:=o5.2.2.2.1;omega⟩ o5.2.2.2.1 (fun k hk=>?_)
  ·obtain⟨q1,q2,q3⟩:=g3 k hk;obtain⟨_,q4⟩:=hnr k hk;refine⟨q1,fun e=>?_,fun e=>?_⟩
   ·rcases n1 k e with e|e
    ·exact q2 e
    ·omega
   ·rcases n2 k e with e|e
    ·exact q3 e
    ·omega
  ·have hk:V k\/k=w5.heap.size\/k=w5.heap.size+1:=by
    rcases hk with e|e|e
    ·exact .inr (.inl e)
    ·exact .inr (.inr e)
    ·exact .inl e
   obtain⟨q1,q2⟩:=hnr k hk;exact o5.2.2.2.2 k q2 q1
 ·rintro V w' ⟨g1,A1,A2,c1,c2,g2,g3,g4⟩ _ hsz hdf;rw[qT];rw[hL]at g2;rw[take_of_length_le (Nat.le_refl _),take_of_length_le (by omega)]at g2;have htp:=zkP hg hT hu;refine zb (zcv g1 hn32 htp.1 htp.2) ?_;rintro _ w6 ⟨rfl,he6⟩;refine⟨_,rfl,zd (by rfl) ?_⟩;have g6:=g2.ext' he6;have sp6:=g1.ext he6;have hdf6:=he6.heap hdf;have hs6:=he6.size;have hKl:1<=KS.length/\KS.length<=33:=by rw[<- hKs,length_cons];omega
  refine zF ((A1,KS.length,c1):SLC) g6.b5 (by rfl) (zd (beq_eq_false_iff_ne.2 (by dsimp only;omega)) ?_);refine zF ((A1,KS.length,c1):SLC) g6.b5 (by rfl) ?_;refine zU g6.ks.sl (by omega) (by dsimp only;omega) ?_;have hK0:KS.getD (Int.toNat 0) 0=0:=by rw[<- hKs];rfl
  have hV0:VS.getD (Int.toNat 0) 0=bn:=by rw[<- hVs];rfl
  rw[hK0];refine zd (by rfl) ?_;refine zF ((A2,KS.length,c2):SLC) g6.b6 (by rfl) ?_;refine zU g6.vs.sl (by omega) (by dsimp only;omega) ?_;rw[hV0];have hbnm:bn∈VS:=by rw[<- hVs];exact mem_cons_self
  refine zb (zoM sp6 (hv32 bn hbnm) hg.dims (hBl.blob hg (hvu bn hbnm))) ?_;rintro _ w7 ⟨rfl,he7⟩;refine⟨(mkB (qa c),0,()),rfl,zd (by rfl) ?_⟩;have hcl:=hIs.len;refine zb (kA (s:=mkB (qa c)) (by rw[xf];omega)) ?_;rintro _ w8 ⟨⟨x,y,rfl,hown⟩,he8⟩;rw[yW,zen hIs]at hown ⊢;refine⟨(yN x y,0,()),rfl,?_⟩;refine yn (vs:=zN x y) (by rfl) (yD _ _) (fun r41 w9 hb41 he9 hr41=>?_) (by rfl);refine zd (by rfl) ?_;have hown9:=hown.ext he9;have hcat:=hown9.cat;have he68:=he7.trans he8;have he69:=he68.trans he9;have hs7:=he7.size;have hs8:=he8.size;have hs9:=he9.size;have g9:=g6.ext' he69;have hdf9:=he69.heap hdf6;refine zb (vL hb41 hcat (by show(ones c).1.length<=_;unfold ones;rw[length_map];omega) (by show(ones c).2.length<=_;unfold ones;rw[length_map];omega)) ?_;rintro _ w10 ⟨Asp,ksp,rfl,hsp,he10⟩;refine⟨(Asp,(zL x y (ones c)).length,ksp),rfl,?_⟩;have hso:=zjL x y c;have hsl:(zL x y (ones c)).length=(zL x y c).length:=by have:=congrArg List.length hso;rwa [length_map,length_map]at this
  rw[hso,hsl]at hsp;rw[hsl];have g10:=g9.ext' he10;have hdf10:=he10.heap hdf9;have hs10:=he10.size;have hspl:=zag x y c;have hkv:=zbt x y c;have hlx:=hb41.lt
  -- rows
  have rx:(∀ j,orow x.1=some j->w7.heap.size<=j/\j<w8.heap.size)/\(∀ j,orow y.1=some j->w7.heap.size<=j/\j<w8.heap.size):=by
   obtain⟨⟨raws,q1⟩,q2⟩:=hown;exact⟨fun j hj=>⟨q1.row.row j hj,q1.row.yc j hj⟩,fun j hj=>⟨q2.row j hj,q2.yc j hj⟩⟩
  have rA1:=g6.ks.yc;have rA2:=g6.vs.yc;have l6:=g6.b6.lt;refine zF ((A1,KS.length,c1):SLC) g10.b5 (by rfl) ?_;have hKl2:KS.length=(zL x y c).length+1:=by rw[<- hKs,length_cons,hkl,hspl]
  refine zd (bne_eq_false_iff_eq.2 (by dsimp only;rw[wrap_i64 (by omega) (by omega)];omega)) ?_;generalize hspd:zL x y c=sp at *;refine zz (fun t w'=>∃ i:Nat,i<=sp.length/\t=((i:Int),())/\zah w' w7.heap.size x y c i/\Gath w w' r1 r5 r6 KS.length KS VS A1 A2 c1 c2/\Blk w' r41 (zN x y) 25/\Owni spE 140 w' w9.heap.size Asp sp.length ksp (sp.map spP)/\w'.heap[w5.heap.size]?=some (.deferred (some []))) (fun t=>(sp.length-t.1).toNat)
   ⟨0,by omega,rfl,(zoL hown9).ext he10,g10,hb41.ext he10,hsp,hdf10⟩ ?_
  rintro _ w11 ⟨i,hi,rfl,hmx,g11,hb11,hsp11,hdf11⟩;dsimp only
  by_cases hlt:i<sp.length
  ·refine zf (decide_eq_true (by omega)) ?_;have eg:(sp.map spP)[i]?=some (spP (sp[i]'hlt)):=by rw[List.getElem?_map,List.getElem?_eq_getElem hlt];rfl
   have egs:(zL x y c)[i]?=some (sp[i]'hlt):=by rw[hspd,List.getElem?_eq_getElem hlt]
   have ekey:KS.getD (i+1) 0=(sp[i]'hlt).1:=by
    rw[<- hKs];show(qK c).getD i 0=_;unfold qK;rw[<- hkv,map_map,getD_eq_getElem?_getD,List.getElem?_map,List.getElem?_eq_getElem hlt];rfl
   have eval:VS.getD (i+1) 0=(sp[i]'hlt).2.2:=by
    rw[<- hVs];show(z7 c).getD i 0=_;unfold z7;rw[<- hkv,map_map,getD_eq_getElem?_getD,List.getElem?_map,List.getElem?_eq_getElem hlt];rfl
   generalize sp[i]'hlt=p at *;refine xT hsp11.sl (by omega) (x:=spP p) (by rw[Int.toNat_natCast];exact eg) rfl ?_;intro pa hpa hca;refine qp (ls:=[.int .u64,.ptr]) (x:=((p.1:Int),some p.2.1,())) hca ?_;refine yn (vs:=[.int .u64 (p.1:Int),.pointer (some p.2.1)]) (by rfl) (by
    intro v hv
    simp only [mem_cons,not_mem_nil,or_false]at hv
    rcases hv with rfl|rfl<;>rfl) (fun r50 w12 hb50 he12 hr50=>?_) (by rfl)
   refine zM fun w13 he13 hz13 hh13=>?_;have he113:=he12.trans he13;have g13:=g11.ext' he113;have hb50:=hb50.ext he13;have hw:wrap .i64 ((i:Int)+1)=((i+1:Nat):Int):=by rw[wrap_i64 (by omega) (by omega)];rfl
   rw[hw];refine zF ((A1,KS.length,c1):SLC) g13.b5 (by rfl) ?_;refine zU g13.ks.sl (by omega) (by dsimp only;omega) ?_;rw[Int.toNat_natCast,ekey];refine zF ((p.1:Nat):Int) hb50 (by rfl) (zd (by simp) ?_);refine zM fun w14 he14 hz14 hh14=>?_;have he114:=he113.trans he14;have g14:=g11.ext' he114;refine zn 1 (some p.2.1) (hb50.ext he14) (by rfl) ?_;refine zF ((A2,KS.length,c2):SLC) g14.b6 (by rfl) ?_;refine zU g14.vs.sl (by omega) (by dsimp only;omega) ?_;rw[Int.toNat_natCast,eval];refine zs ?_;refine zph (hmx.ext he114) egs ?_;intro w15 hmx15 o15;have hG:∀ k,(orow x.1=some k\/orow y.1=some k)->w7.heap.size<=k/\k<w8.heap.size:=fun k hk=>by
    rcases hk with e|e
    ·exact rx.1 k e
    ·exact rx.2 k e
   refine⟨⟨i+1,by omega,rfl,hmx15,g14.only o15 (by omega) ⟨by omega,by omega⟩ (fun k hk=>?_),(hb11.ext he114).only o15 (fun e=>by have:=hG _ e;omega),(hsp11.ext he114).only o15 (fun j hj e=>by have:=hG _ e;have:=hsp11.row j hj;omega),?_⟩,by omega⟩
   ·have:=hG k hk;exact⟨by omega,fun e=>by have:=rA1 _ e;omega,fun e=>by have:=rA2 _ e;omega⟩
   ·have hz:w5.heap.size<w14.heap.size:=by have:=(Array.getElem?_eq_some_iff.1 (he114.heap hdf11)).1;omega
    rw[o15.2.2.2.2 _ hz (fun e=>by have:=hG _ e;omega)];exact he114.heap hdf11
  ·obtain rfl:i=sp.length:=by omega
   refine zd (decide_eq_false (by omega)) ?_;have hc:=zkS hmx (by rw[hspd];exact Nat.le_refl _);refine zZ (ls:=xW) (yN x y) hb11 (by rfl) ?_;refine refill (vs:=zN x y) g11.b1 (by rfl) (yD _ _) (by rfl) ?_;intro w12 hb12 hx12 hk12 hz12;have he12:=hx12 w g11.ext (by omega);have heo:=g11.ext;refine ja (by rw[hk12 _ (by omega)];exact hdf11) ?_;have hsb:=zX (a:=w5.heap.size) (b:=w5.heap.size+1) (w:=w12) (o:=.deferred none) (.inl rfl);refine zZ (ls:=xW) (yN x y) (hsb.blk hb12 (by omega)) (by rfl) ?_;have o1:Only (fun k=>k=r1) w11 w12:=⟨he12.os.trans heo.os.symm,he12.tape.trans heo.tape.symm,he12.output.trans heo.output.symm,Nat.le_of_eq hz12.symm,fun k _ hk=>hk12 k hk⟩;have o2:Only (fun k=>k=w5.heap.size) w12 (yy w12 w5.heap.size (.deferred none)):=Only.yy rfl;refine⟨⟨x,y,rfl,((hc.only o1 (fun k hk=>by omega)).only o2 (fun k hk=>by omega)).lower (by have:=he04.size;omega)⟩,hsb.ext he12 (by omega)⟩
end V
/- Contracts of the package catalog:Find,Copy. -/
namespace V
open Go Go.Proofs Go.RowKit Crc
variable {w w':World}
theorem zhs {p q:Nat->Bool} {n:Nat} (h:∀ j,j<n->p j=q j):xI p n=xI q n:=by
 have aux:∀ l:List Nat,(∀ j∈l,p j=q j)->l.findIdx p=l.findIdx q:=by
  intro l
  induction l with
  |nil=>intro _;rfl
  |cons a r ih=>
   intro hl;rw[List.findIdx_cons,List.findIdx_cons,hl a mem_cons_self,ih (fun j hj=>hl j (mem_cons_of_mem _ hj))]
 exact aux _ (fun j hj=>h j (mem_range.1 hj))
def zey (c:Cat) (s:ByteArray):Nat:=xI (fun j=>decide (B (c.1.getD j yb).1=B s)) c.1.length
def zez (c:Cat) (s:ByteArray):Int×Int:=if zey c s<c.1.length then ((zey c s:Int),0) else (0,210)
theorem ze8 {r:Raw} {b:Nat} {s:ByteArray} {t:TypeId} (hb:Blk w b [.string s] t):Calls prog 56 #[.agg (yu.f r).toArray,.pointer (some ⟨b,0,none⟩)] w (Ret fun v w'=>v=.bool (decide (B r.1=B s))/\Ext w w'):=by
 apply znM;unfold S56;refine zr fun r1 w1 hb1 he1 hr1 hz1=>?_;have hb1:Blk w1 r1 (yu.f r) 44:=hb1;refine zF r.1 hb1 (by rfl) (zF s (hb.ext he1) (by rfl) ?_);exact⟨by rw[qx],he1⟩
theorem zbL {x y:SLC} {c:Cat} (h:xo w x y c) (s:ByteArray):
  Calls prog 17 #[.agg (zN x y).toArray,.string s] w (Ret fun v w'=>v=.tuple #[.int .i64 (zez c s).1,.int .i64 (zez c s).2]/\Ext w w'):=by
 obtain⟨⟨raws,hT⟩,hs,hcx,hcy⟩:=h;have hl:=hT.len;apply znt;unfold S17;refine zr fun r1 w1 hb1 he1 hr1 hz1=>?_;have hb1:Blk w1 r1 (zN x y) 25:=hb1;refine zr fun r2 w2 hb2 he2 hr2 hz2=>?_;have he:=he1.trans he2;refine zF x (hb1.ext he2) (by rfl) ?_;refine zb (zct (q:=fun j=>decide (B (raws.getD j yl).1=B s)) (by kernel_rfl) (hT.sl.ext he) (fun w' i he' hi=>ze8 (hb2.ext he'))) ?_;rintro _ w3 ⟨rfl,he3⟩;refine⟨_,rfl,?_⟩;have hq:xI (fun j=>decide (B (raws.getD j yl).1=B s)) raws.length=zey c s:=by
  unfold zey;rw[hl];exact zhs (fun j hj=>by rw[(hT.at_ j hj).name])
 rw[hq,hl];unfold zez
 by_cases hlt:zey c s<c.1.length
 ·rw[if_pos hlt,if_pos hlt];exact zd (decide_eq_false (by omega)) ⟨rfl,he.trans he3⟩
 ·rw[if_neg hlt,if_neg hlt];exact zf (by rfl) ⟨rfl,he.trans he3⟩
theorem Owni.neB {α:Type} {E:Enc α} {w:World} {e t:TypeId} {B n c r:Nat} {A:Option Addr} {xs:List α} {cs:List Value} (h:Owni E e w B A n c xs) (hb:Blk w r cs t) (he:e≠t):∀ j,orow A=some j->j≠r:=by
 intro j hj hr;subst hr;rcases h.2 with ⟨hv,_⟩|⟨g,cap,cur,hv,_,hg,_⟩
 ·injection hv with hv;subst hv;cases hj
 ·injection hv with hv
  subst hv;have e1:g=j:=Option.some.inj hj;subst e1;have hb':w.heap[g]?=some _:=hb;rw[hg]at hb';injection hb' with hb'
  injection hb' with _ e2 _
  exact he e2
theorem zkT:jR prog 40 62 (.agg #[.string ByteArray.empty,.int .i64 0,.bool false]) x6.k 32:=⟨by kernel_rfl,by kernel_rfl,by kernel_rfl⟩
theorem zcx {x:SLC} {xs:List Raw} (h:Sli yu w x.1 x.2.1 xs) (hn:x.2.1<=1000000):
  Calls prog 65 #[.slice x.1 x.2.1 x.2.2] w (Ret fun v w'=>∃ A c,v=.slice A x.2.1 c/\Owni yu 44 w' w.heap.size A x.2.1 c xs/\Ext w w'):=by
 apply znT;unfold S65;exact zeP (K:=fun v w'=>∃ A c,v=.slice A x.2.1 c/\Owni yu 44 w' w.heap.size A x.2.1 c xs/\Ext w w') zdF h (by omega) (by omega) fun A' c' w' ho he=>⟨A',c',rfl,ho,he⟩
theorem uR {x:SLC} {xs:List Snp} (h:Sli qc w x.1 x.2.1 xs) (hn:x.2.1<=1000000):
  Calls prog 66 #[.slice x.1 x.2.1 x.2.2] w (Ret fun v w'=>∃ A c,v=.slice A x.2.1 c/\Owni qc 46 w' w.heap.size A x.2.1 c xs/\Ext w w'):=by
 apply znU;unfold S66;exact zeP (K:=fun v w'=>∃ A c,v=.slice A x.2.1 c/\Owni qc 46 w' w.heap.size A x.2.1 c xs/\Ext w w') zg8 h (by omega) (by omega) fun A' c' w' ho he=>⟨A',c',rfl,ho,he⟩
theorem zht {x:SLC} {xs:List Col} (h:Sli x6 w x.1 x.2.1 xs) (hn:x.2.1<=1000000):
  Calls prog 67 #[.slice x.1 x.2.1 x.2.2] w (Ret fun v w'=>∃ A c,v=.slice A x.2.1 c/\Owni x6 62 w' w.heap.size A x.2.1 c xs/\Ext w w'):=by
 apply znV;unfold S67;exact zeP (K:=fun v w'=>∃ A c,v=.slice A x.2.1 c/\Owni x6 62 w' w.heap.size A x.2.1 c xs/\Ext w w') zkT h (by omega) (by omega) fun A' c' w' ho he=>⟨A',c',rfl,ho,he⟩
def zjM (c:Cat):Prop:=c.1.length<=1000/\c.2.length<=1000/\∀ e∈c.1,e.2.1.length<=1000
structure ze9 (w0 w:World) (r2 r7:Nat) (X Y:SLC) (raws:List Raw) (c:Cat) (i:Nat) (raws':List Raw):Prop where
 ext:Ext w0 w
 b2:Blk w r2 (zN (none,0,0) (none,0,0)) 25
 b7:Blk w r7 (zN X Y) 25
 row:Owni yu 44 w w0.heap.size X.1 X.2.1 X.2.2 raws'
 len:raws'.length=raws.length
 done:∀ j,j<i->xm w w0.heap.size (raws'.getD j yl) (c.1.getD j yb)
 left:∀ j,i<=j->raws'.getD j yl=raws.getD j yl
 snps:Owni qc 46 w w0.heap.size Y.1 Y.2.1 Y.2.2 c.2
theorem ze9.ext' {w0:World} {r2 r7 i:Nat} {X Y:SLC} {raws raws':List Raw} {c:Cat} (h:ze9 w0 w r2 r7 X Y raws c i raws') (he:Ext w w'):ze9 w0 w' r2 r7 X Y raws c i raws':=
 ⟨h.ext.trans he,h.b2.ext he,h.b7.ext he,h.row.ext he,h.len,fun j hj=>(h.done j hj).ext he,h.left,h.snps.ext he⟩
theorem zcy {w0:World} {r2 r7:Nat} {x X Y:SLC} {raws:List Raw} {c:Cat} {K:Value->WP} (hT:zaU w0 x raws c.1) (hX:X.2.1=raws.length) (hlt:zjM c) (h2:w0.heap.size<=r2) (h7:w0.heap.size<=r7) (h27:r2≠r7) (h:ze9 w0 w r2 r7 X Y raws c 0 raws)
  (hK:∀ w',yg w' w0.heap.size X Y c->Ext w0 w'->K (.agg (zN X Y).toArray) w'):
  (ldW .slc (aD r7) fun(u8:SLC)=>
   zH (Int×Unit) ((0:Int),()) fun(y10:Int×Unit) (I9:(Int×Unit)->WP)=>
   za (decide (y10.1<((u8.2.1:Nat):Int))) (zc (0<=y10.1/\y10.1<((u8.2.1:Nat):Int))<|
   zi u8.1 fun(p11:Addr)=>
   zk [.str,.slc,(.int .u32),(.int .u64),(.int .i64)] (p11.add (Int.toNat y10.1*5)) fun(u12:(ByteArray×SLC×Int×Int×Int×Unit))=>
   zh (.cells #[(.string ByteArray.empty),(.slice none 0 0),(.int .u32 (0:Int)),(.int .u64 (0:Int)),(.int .i64 (0:Int))] 44) fun(r13:Nat)=>
   zc ((#[(.string u12.1),(.slice u12.2.1.1 u12.2.1.2.1 u12.2.1.2.2),(.int .u32 u12.2.2.1),(.int .u64 u12.2.2.2.1),(.int .i64 u12.2.2.2.2.1)]:Array Value).size=5)<|
   zt (aD r13) [(.string u12.1),(.slice u12.2.1.1 u12.2.1.2.1 u12.2.1.2.2),(.int .u32 u12.2.2.1),(.int .u64 u12.2.2.2.1),(.int .i64 u12.2.2.2.2.1)]<|
   zA<|
   ldW .slc (aD r7) fun(u14:SLC)=>
   ldW .slc ((aD r13).add 1) fun(u15:SLC)=>
   ze prog 67 [(.slice u15.1 u15.2.1 u15.2.2)] (.one (.one .slc)) fun(u16:SLC)=>
   zq [[((aD r7),(.slice u14.1 u14.2.1 u14.2.2))]]<|
   zc (0<=y10.1/\y10.1<((u14.2.1:Nat):Int))<|
   zi u14.1 fun(p17:Addr)=>
   stW ((p17.add (Int.toNat y10.1*5)).add 1) (.slice u16.1 u16.2.1 u16.2.2)<|I9 ((wrap .i64 (y10.1+(1:Int))),()))<|
   zk [.slc,.slc] (aD r7) fun(u18:(SLC×SLC×Unit))=>
   zc ((#[(.slice u18.1.1 u18.1.2.1 u18.1.2.2),(.slice u18.2.1.1 u18.2.1.2.1 u18.2.1.2.2)]:Array Value).size=2)<|
   zt (aD r2) [(.slice u18.1.1 u18.1.2.1 u18.1.2.2),(.slice u18.2.1.1 u18.2.1.2.1 u18.2.1.2.2)]<|
   zk [.slc,.slc] (aD r2) fun(u19:(SLC×SLC×Unit))=>K (.agg #[(.slice u19.1.1 u19.1.2.1 u19.1.2.2),(.slice u19.2.1.1 u19.2.1.2.1 u19.2.1.2.2)])) w:=by
 have hl:=hT.len;obtain⟨hl1,hl2,hl3⟩:=hlt;refine zF X h.b7 (by rfl) ?_;refine zz (fun q w'=>∃ (i:Nat) (raws':List Raw),i<=raws.length/\q=((i:Int),())/\ze9 w0 w' r2 r7 X Y raws c i raws') (fun q=>(raws.length-q.1).toNat) ⟨0,raws,by omega,rfl,h⟩ ?_;rintro _ w1 ⟨i,raws',hi,rfl,g⟩;dsimp only;have hl':=g.len
 by_cases hlt:i<raws.length
 ·refine zf (decide_eq_true (by omega)) ?_;have eg:raws'[i]?=some (raws'.getD i yl):=by rw[getD_eq_getElem?_getD,List.getElem?_eq_getElem (by omega)];rfl
  have eL:=g.left i (Nat.le_refl _);have hE:=(hT.at_ i (by omega)).ext g.ext;rw[<- eL]at hE;have hmem:c.1.getD i yb∈c.1:=by rw[getD_eq_getElem?_getD,List.getElem?_eq_getElem (by omega)];exact getElem_mem _
  have hcl:=hl3 _ hmem;generalize hp:raws'.getD i yl=p at *;refine xT g.row.sl (by omega) (x:=p) (by rw[Int.toNat_natCast];exact eg) rfl ?_;intro pa hpa hca;refine qp (ls:=zeo) (x:=zaw p) hca ?_;refine yn (vs:=yu.f p) (by rfl) (yu.one _) (fun r13 w2 hb2 he2 hr2=>?_) (by rfl);refine zM fun w3 he3 hz3 hh3=>?_;have he13:=he2.trans he3;have g3:=g.ext' he13;have hb3:=hb2.ext he3;refine zF X g3.b7 (by rfl) (zn 1 p.2.1 hb3 (by rfl) ?_);have hcs:=hE.cols.ext he13;have hcsl:=hcs.len;refine zb (zht (x:=p.2.1) hcs (by omega)) ?_;rintro _ w4 ⟨A4,k4,rfl,ho4,he4⟩;refine⟨(A4,p.2.1.2.1,k4),rfl,?_⟩;have g4:=g3.ext' he4;refine xy (yd g4.b7 rfl) ?_;refine zK ⟨by omega,by omega⟩ ?_;obtain⟨a,hA⟩:∃ a,X.1=some a:=by
   obtain⟨a,ha,_⟩:=g4.row.sl.2.2 (by omega);exact⟨a,ha⟩
  refine⟨a,hA,?_⟩;have hadr:(a.add (Int.toNat (i:Int)*5)).add 1=((adr X.1).add (i*5)).add 1:=by rw[hA,Int.toNat_natCast];rfl
  have hw:wrap .i64 ((i:Int)+1)=((i+1:Nat):Int):=by rw[wrap_i64 (by omega) (by omega)];rfl
  show stW ((a.add (Int.toNat (i:Int)*5)).add 1) (.slice A4 p.2.1.2.1 k4) _ w4;rw[hadr,hw];refine Owni.stF (x':=(p.1,(A4,p.2.1.2.1,k4),p.2.2)) g4.row (k:=5) rfl eg (by omega) (by rfl) ?_;intro w5 ho5 o5;have hrow:=g4.row.row;have hsz:=g.ext.size;have hsz3:=he13.size;refine⟨⟨i+1,_,by omega,rfl,Only.ext g4.ext o5 (fun j hj=>hrow j hj),g4.b2.only o5 (fun e=>?_),g4.b7.only o5 (fun e=>?_),ho5,by rw[length_set];exact hl',fun j hj=>?_,fun j hj=>?_,g4.snps.only o5 (fun q hq e=>g4.snps.ne g4.row (by decide) q hq e)⟩,by omega⟩
  ·exact Owni.neB g4.row g4.b2 (by decide) _ e rfl
  ·exact Owni.neB g4.row g4.b7 (by decide) _ e rfl
  ·rw[kN (by omega)]
   by_cases e:i=j
   ·subst e;rw[if_pos rfl];exact⟨hE.name,hE.rest,(ho4.lower (by omega)).only o5 (fun q hq e=>ho4.ne g4.row (by decide) q hq e)⟩
   ·rw[if_neg e];have hd:=g4.done j (by omega);exact⟨hd.name,hd.rest,hd.cols.only o5 (fun q hq e=>hd.cols.ne g4.row (by decide) q hq e)⟩
  ·rw[kN (by omega),if_neg (by omega)];exact g4.left j (by omega)
 ·obtain rfl:i=raws.length:=by omega
  refine zd (decide_eq_false (by omega)) ?_;refine zZ (ls:=xW) (yN X Y) g.b7 (by rfl) ?_;refine refill (vs:=zN X Y) g.b2 (by rfl) (yD _ _) (by rfl) ?_;intro w2 hb2 hx2 hk2 hz2;have he2:=hx2 w0 g.ext h2;refine zZ (ls:=xW) (yN X Y) hb2 (by rfl) ?_;have o:Only (fun k=>k=r2) w1 w2:=⟨he2.os.trans g.ext.os.symm,he2.tape.trans g.ext.tape.symm,he2.output.trans g.ext.output.symm,Nat.le_of_eq hz2.symm,fun k _ hk=>hk2 k hk⟩;have nB:∀ {α:Type} {E:Enc α} {e:TypeId} {A:Option Addr} {n k:Nat} {xs:List α},e≠25->Owni E e w1 w0.heap.size A n k xs->Owni E e w2 w0.heap.size A n k xs:=fun hne ho=>ho.only o (fun j hj e=>Owni.neB ho g.b2 hne j hj e);refine hK w2 ⟨⟨raws',nB (by decide) g.row,by omega,fun j hj=>?_⟩,nB (by decide) g.snps⟩ he2;have hd:=g.done j (by omega);exact⟨hd.name,hd.rest,nB (by decide) hd.cols⟩
theorem zfS {x y:SLC} {c:Cat} (h:xo w x y c) (hlt:zjM c):
  Calls prog 21 #[.agg (zN x y).toArray] w (Ret fun v w'=>(∃ X Y,v=.agg (zN X Y).toArray/\yg w' w.heap.size X Y c)/\Ext w w'):=by
 obtain⟨⟨raws,hT⟩,hs,hcx,hcy⟩:=h;have hl:=hT.len;have hxl:=hT.sl.len;have hyl:=hs.len;obtain⟨hl1,hl2,hl3⟩:=id hlt;apply znv;unfold S21;refine zr fun r1 w1 hb1 he1 hr1 hz1=>?_;have hb1:Blk w1 r1 (zN x y) 25:=hb1;refine zr fun r2 w2 hb2 he2 hr2 hz2=>?_;have hb2:Blk w2 r2 (zN (none,0,0) (none,0,0)) 25:=hb2;refine zM fun w3 he3 hz3 hh3=>?_;have hb13:=(hb1.ext he2).ext he3;have hb23:=hb2.ext he3;have he03:=(he1.trans he2).trans he3;have hs03:=he03.size;refine zF x hb13 (by rfl) (zn 1 y hb13 (by rfl) ?_);have fin:∀ {w6:World} {r7:Nat} {A1 A2:Option Addr} {k1 k2:Nat} {B1 B2:Nat},Ext w3 w6->Owni yu 44 w6 B1 A1 x.2.1 k1 raws->Owni qc 46 w6 B2 A2 y.2.1 k2 c.2->w.heap.size<=B1->w.heap.size<=B2->Blk w6 r7 (zN (A1,x.2.1,k1) (A2,y.2.1,k2)) 25->ze9 w w6 r2 r7 (A1,x.2.1,k1) (A2,y.2.1,k2) raws c 0 raws:=fun he ho1 ho2 hB1 hB2 hb=>
  ⟨he03.trans he,hb23.ext he,hb,ho1.lower hB1,rfl,fun j hj=>absurd hj (by omega),fun j _=>rfl,ho2.lower hB2⟩
 refine⟨?_,?_⟩
 ·refine zb (zcx (hT.sl.ext he03) (by omega)) ?_;rintro _ w4 ⟨A1,k1,rfl,ho1,he4⟩;refine⟨(A1,x.2.1,k1),rfl,?_⟩;refine xy (yM (hb13.ext he4) rfl) ?_;refine⟨?_,?_⟩
  ·refine zb (uR (hs.ext (he03.trans he4)) (by omega)) ?_;rintro _ w5 ⟨A2,k2,rfl,ho2,he5⟩;refine⟨(A2,y.2.1,k2),rfl,?_⟩;refine zr fun r7 w6 hb7 he6 hr7 hz7=>?_;have he36:=(he4.trans he5).trans he6;have hz36:=he36.size;have:=he4.size;have:=he5.size;refine js (yM (hb13.ext he36) rfl) (yd (hb13.ext he36) rfl) ?_;refine refill (vs:=zN (A1,x.2.1,k1) (A2,y.2.1,k2)) hb7 (by rfl) (yD _ _) (by rfl) ?_;intro w7 hb77 hx7 hk7 hz77;have he7:=hx7 w3 he36 (by omega);have e7:=hx7 w5 he6 (by omega);exact zcy (K:=fun v w'=>(∃ X Y,v=.agg (zN X Y).toArray/\yg w' w.heap.size X Y c)/\Ext w w') (X:=(A1,x.2.1,k1)) (Y:=(A2,y.2.1,k2)) hT hxl.symm hlt (by omega) (by omega) (by omega) (fin he7 ((ho1.ext he5).ext e7) (ho2.ext e7) (by omega) (by omega) hb77) (fun w' hc he=>⟨⟨_,_,rfl,hc⟩,he⟩)
  ·refine zr fun r7 w6 hb7 he6 hr7 hz7=>?_;have he36:=he4.trans he6;have:=he4.size;refine js (yM (hb13.ext he36) rfl) (yd (hb13.ext he36) rfl) ?_;refine zb (uR (hs.ext (he03.trans he36)) (by omega)) ?_;rintro _ w5 ⟨A2,k2,rfl,ho2,he5⟩;refine⟨(A2,y.2.1,k2),rfl,?_⟩;have he35:=he36.trans he5;have:=he6.size;refine refill (vs:=zN (A1,x.2.1,k1) (A2,y.2.1,k2)) (hb7.ext he5) (by rfl) (yD _ _) (by rfl) ?_;intro w7 hb77 hx7 hk7 hz77;have he7:=hx7 w3 he35 (by omega);have e47:=hx7 w4 (he6.trans he5) (by omega);have o7:Only (fun k=>k=r7) w5 w7:=⟨he7.os.trans he35.os.symm,he7.tape.trans he35.tape.symm,he7.output.trans he35.output.symm,Nat.le_of_eq hz77.symm,fun k _ hk=>hk7 k hk⟩;exact zcy (K:=fun v w'=>(∃ X Y,v=.agg (zN X Y).toArray/\yg w' w.heap.size X Y c)/\Ext w w') (X:=(A1,x.2.1,k1)) (Y:=(A2,y.2.1,k2)) hT hxl.symm hlt (by omega) (by omega) (by omega) (fin he7 (ho1.ext e47) (ho2.only o7 (fun j hj e=>by have:=ho2.row j hj;have:j=r7:=e;omega)) (by omega) (by omega) hb77) (fun w' hc he=>⟨⟨_,_,rfl,hc⟩,he⟩)
 ·refine zr fun r7 w6 hb7 he6 hr7 hz7=>?_;refine js (yM (hb13.ext he6) rfl) (yd (hb13.ext he6) rfl) ?_;refine zb (zcx (hT.sl.ext (he03.trans he6)) (by omega)) ?_;rintro _ w4 ⟨A1,k1,rfl,ho1,he4⟩;refine⟨(A1,x.2.1,k1),rfl,?_⟩;refine xy (yM ((hb13.ext he6).ext he4) rfl) ?_;have:=he6.size;have:=he4.size;refine zb (uR (hs.ext ((he03.trans he6).trans he4)) (by omega)) ?_;rintro _ w5 ⟨A2,k2,rfl,ho2,he5⟩;refine⟨(A2,y.2.1,k2),rfl,?_⟩;have he65:=he4.trans he5;have he35:=he6.trans he65;refine refill (vs:=zN (A1,x.2.1,k1) (A2,y.2.1,k2)) (hb7.ext he65) (by rfl) (yD _ _) (by rfl) ?_;intro w7 hb77 hx7 hk7 hz77;have he7:=hx7 w3 he35 (by omega);have o7:Only (fun k=>k=r7) w5 w7:=⟨he7.os.trans he35.os.symm,he7.tape.trans he35.tape.symm,he7.output.trans he35.output.symm,Nat.le_of_eq hz77.symm,fun k _ hk=>hk7 k hk⟩;have hlt7:=hb7.lt;exact zcy (K:=fun v w'=>(∃ X Y,v=.agg (zN X Y).toArray/\yg w' w.heap.size X Y c)/\Ext w w') (X:=(A1,x.2.1,k1)) (Y:=(A2,y.2.1,k2)) hT hxl.symm hlt (by omega) (by omega) (by omega) (fin he7 ((ho1.ext he5).only o7 (fun j hj e=>by have:=ho1.row j hj;have:j=r7:=e;omega)) (ho2.only o7 (fun j hj e=>by have:=ho2.row j hj;have:j=r7:=e;omega)) (by omega) (by omega) hb77) (fun w' hc he=>⟨⟨_,_,rfl,hc⟩,he⟩)
end V
/- Spaces of which nothing is owned:plain. Leaves that are dropped. -/
namespace V
open Go Go.Proofs Go.RowKit Crc
theorem zbx {U:Nat->Bool} (r:Nat->Nat):∀ N:Nat,(∃ n,n<N/\U n=true)->∃ n,n<N/\U n=true/\∀ m,m<N->U m=true->r m<=r n
 |0,⟨n,h,_⟩=>by omega
 |N+1,h=>by
  by_cases hN:∃ n,n<N/\U n=true
  ·obtain⟨n,h1,h2,h3⟩:=zbx r N hN
   by_cases hu:U N=true
   ·by_cases hr:r N<=r n
    ·refine⟨n,by omega,h2,fun m hm hum=>?_⟩
     by_cases e:m=N
     ·subst e;exact hr
     ·exact h3 m (by omega) hum
    ·refine⟨N,by omega,hu,fun m hm hum=>?_⟩
     by_cases e:m=N
     ·subst e;exact Nat.le_refl _
     ·have:=h3 m (by omega) hum;omega
   ·refine⟨n,by omega,h2,fun m hm hum=>?_⟩
    by_cases e:m=N
    ·subst e;exact absurd hum hu
    ·exact h3 m (by omega) hum
  ·obtain⟨n,h1,h2⟩:=h;have e:n=N:=by
    by_cases e:n<N
    ·exact absurd ⟨n,e,h2⟩ hN
    ·omega
   subst e;refine⟨n,by omega,h2,fun m hm hum=>?_⟩
   by_cases e:m=n
   ·subst e;exact Nat.le_refl _
   ·exact absurd ⟨m,by omega,hum⟩ hN
theorem zkU {N:Nat} {ps:List Nat} {pg:PgF} {c:List Nat} (h:ya N ps pg c []) (n:Nat):zE ps c n=false:=by
 cases hq:zE ps c n with
 |false=>rfl
 |true=>
  exfalso
  obtain⟨r,hr⟩:=h.rank;obtain⟨m,m1,m2,m3⟩:=zbx (U:=zE ps c) r N ⟨n,h.lt hq,hq⟩;obtain⟨a1,a2,a3⟩:=zI.1 m2;have hs:=h.sum m a1 a2;rw[List.count_nil,Nat.zero_add]at hs;have:∃ k,k<N/\xq ps pg c m k≠0:=by
   apply Classical.byContradiction;intro hno;have:jt N ps pg c m=0:=by
    unfold jt;rw[zad (g:=fun _=>0) (fun k hk=>by
     apply Classical.byContradiction
     intro hk0
     exact hno ⟨k,hk,hk0⟩)]
    exact vR N
   omega
  obtain⟨k,hk,hk0⟩:=this;unfold xq at hk0;split at hk0
  ·rename_i huk;have hm:m∈z6 pg k:=List.count_pos_iff.1 (by omega);have:=hr k huk m hm;have:=m3 k hk huk;omega
  ·exact hk0 rfl
theorem zfF {N:Nat} {ps:List Nat} {pg:PgF} {c:List Nat} (h:ya N ps pg c []) {n:Nat} (h2:2<=n) (hp:n∉ps):c.getD n 0=0:=by
 have:=zkU h n;cases hq:c.getD n 0 with
 |zero=>rfl
 |succ k=>
  rw[zI.2 ⟨h2,hp,by omega⟩]at this;cases this
theorem zjN {S:Spa} (h:Great S [] [] none) (hm:S.mark=none):S.zQ+S.sup.pages.length+2=S.N:=by
 have hP:=h.heldOK.zfZ h.good;have hN:=h.good.dims.n;have hmem:∀ n,n∈S.ye↔2<=n/\n<S.N/\n∉S.sup.pages:=by
  intro n;rw[vQ];constructor
  ·rintro⟨a1,a2,a3⟩;refine⟨a2,a1,fun e=>?_⟩;have:=(hP.at_ n e).2.2;have:=(zP.1 a3).1;omega
  ·rintro⟨a1,a2,a3⟩;refine⟨a2,a1,zP.2 ⟨zfF h.good.well a1 a3,zfF h.hwell a1 a3,by rw[hm];rfl⟩⟩
 have hnd:(0::1::(S.sup.pages++S.ye)).Nodup:=by
  rw[nodup_cons,nodup_cons,List.nodup_append];refine⟨?_,?_,hP.nodup,zmD S,?_⟩
  ·simp only [mem_cons,mem_append,not_or];exact⟨by omega,fun e=>by have:=(hP.at_ 0 e).1;omega,fun e=>by have:=((hmem 0).1 e).1;omega⟩
  ·simp only [mem_append,not_or];exact⟨fun e=>by have:=(hP.at_ 1 e).1;omega,fun e=>by have:=((hmem 1).1 e).1;omega⟩
  ·intro a ha b hb e;subst e;exact((hmem a).1 hb).2.2 ha
 have h1:=zae hnd (b:=List.range S.N) (fun x hx=>by
  rw[mem_range]
  simp only [mem_cons,mem_append]at hx
  rcases hx with e|e|e|e
  ·omega
  ·omega
  ·exact(hP.at_ x e).2.1
  ·exact((hmem x).1 e).2.1)
 have h2:=zae (List.nodup_range (n:=S.N)) (b:=0::1::(S.sup.pages++S.ye)) (fun x hx=>by
  have hx:=mem_range.1 hx
  simp only [mem_cons,mem_append]
  by_cases e:x<2
  ·omega
  ·by_cases e2:x∈S.sup.pages
   ·exact .inr (.inr (.inl e2))
   ·exact .inr (.inr (.inr ((hmem x).2 ⟨by omega,hx,e2⟩))))
 rw[length_range]at h1 h2;simp only [length_cons,length_append]at h1 h2;unfold Spa.zQ;omega
end V
/- The space that laws on catalogs begin with;what stays,whatever a space does. -/
namespace V
open Go Go.Proofs Go.RowKit Crc
def S0:Spa:=ql (zdt 256 256)
theorem zfa:zW 256 256=true:=by decide
theorem znd:zG 256 256=3:=by decide
theorem zmW:chk (y0 256 256)=0:=by
 have h:=zos (size:=256) (N:=256) zfa;rw[h,znd]
 decide
theorem uS:Great S0 [] [] none:=(uM (zf0 zfa) zmW).2.1
theorem zpx:(yA (zdt 256 256)).2=0:=(uM (zf0 zfa) zmW).1
theorem zeA:S0.dev.pen=[]:=(uM (zf0 zfa) zmW).2.2
theorem zkV:S0.sup=y0 256 256:=rfl
theorem zoN:S0.mark=none:=rfl
theorem uT:S0.sup.pages.length=3:=by rw[zkV];show(xA (zG 256 256)).length=3;rw[kg,znd]
theorem zai:S0.r0=238:=by unfold Spa.r0 Spa.room;rw[zkV];decide
theorem zjO:qG 238=13804:=by decide
theorem zpH:S0.N=256:=rfl
theorem zcK:S0.zQ=251:=by
 have:=zjN uS zoN;rw[uT,zpH]at this;omega
structure St (w0 w:World) (b db:Nat) (S:Spa) (F:Nat->Prop):Prop where
 sp:zV w b db S F
 low:∀ k,F k->w0.heap.size<=k
 ext:Ext w0 w
def Safe (F:Nat->Prop) (w:World) (P:World->Prop):Prop:=∀ w',Only F w w'->P w'
variable {w0 w w':World} {b db:Nat} {S S':Spa} {F F':Nat->Prop} {P:World->Prop}
theorem Safe.now (h:Safe F w P):P w:=h w (Only.refl F w)
theorem Safe.ext (h:Safe F w P) (he:Ext w w'):Safe F w' P:=fun w'' o=>h w'' (Only.trans (Only.zB he) o (fun j hj=>.inl hj))
theorem Safe.step (h:Safe F w P) (o:Only F w w') (hF:∀ k,F' k->F k\/w.heap.size<=k):Safe F' w' P:=fun w'' o2=>h w'' (Only.trans o o2 hF)
theorem Safe.mono {Q:World->Prop} (h:Safe F w P) (hQ:∀ w,P w->Q w):Safe F w Q:=fun w' o=>hQ _ (h w' o)
theorem St.ext' (h:St w0 w b db S F) (he:Ext w w'):St w0 w' b db S F:=⟨h.sp.ext he,h.low,h.ext.trans he⟩
theorem St.step (h:St w0 w b db S F) (hst:yw w b db F S' w'):∃ F',St w0 w' b db S' F'/\∀ P:World->Prop,Safe F w P->Safe F' w' P:=by
 obtain⟨F',h1,h2,h3⟩:=hst;refine⟨F',⟨h1,fun k hk=>?_,Only.ext h.ext h3 h.low⟩,fun P hP=>hP.step h3 h2⟩;rcases h2 k hk with e|e
 ·exact h.low k e
 ·exact Nat.le_trans h.ext.size e
theorem St.own (h:zV w b db S F) {x y:SLC} {c:Cat} (hc:yg w' w.heap.size x y c):Safe F w' (fun w=>yg w 0 x y c):=fun w2 o=>(hc.only o (fun k hk=>h.lt k hk)).lower (Nat.zero_le _)
theorem St.pre {w1:World} (he:Ext w0 w1) (h:St w1 w b db S F):St w0 w b db S F:=⟨h.sp,fun k hk=>Nat.le_trans he.size (h.low k hk),he.trans h.ext⟩
theorem At.zpI (h:At w0 w b db S):∃ F,St w0 w b db S F:=by
 obtain⟨F,h1,h2,h3⟩:=h;exact⟨F,h1,h2,h3⟩
theorem zkW {w1:World} {db:Nat} (h:zgC w0 (zdt 256 256) db w1):
  Calls prog 69 #[.pointer (some ⟨db,0,none⟩)] w1 (Ret fun v w'=>∃ b,v=.tuple #[.pointer (some ⟨b,0,none⟩),.int .i64 0]/\∃ F,St w0 w' b db S0 F):=by
 refine(zkv h (zf0 zfa) (by show([]:List (Int×ByteArray)).length<=_;simp)).mono (Ret.mono ?_);rintro _ w3 (⟨hne,_⟩|⟨_,b,rfl,hat⟩)
 ·exact absurd zpx hne
 ·exact⟨b,rfl,hat.zpI⟩
def strk:ByteArray:=ByteArray.mk #[107]
def strv:ByteArray:=ByteArray.mk #[118]
def pk:Col:=(strk,3,false)
def pv:Col:=(strv,1,true)
def zaj:List Col:=[pk,pv]
theorem zhu (w:World):Calls prog 70 #[] w (Ret fun v w'=>∃ r,v=.slice (some ⟨r,0,none⟩) 2 2/\Owni x6 62 w' w.heap.size (some ⟨r,0,none⟩) 2 2 zaj/\Ext w w'):=by
 apply znY;unfold S70;refine zr fun r w1 hb he hr hz=>⟨r,rfl,j8 (E:=x6) (xs:=zaj) (by exact hb) rfl (by omega) (by omega),he⟩
theorem zoO:xw zaj=0:=by kernel_rfl
end V
/- Law 24:the space,the catalog that all begin with;the example. -/
namespace V
open Go Go.Proofs Go.RowKit Crc
theorem zdc (w:World):Calls prog 22 #[] w (Ret fun v w'=>∃ db b,v=.tuple #[.pointer (some ⟨db,0,none⟩),.pointer (some ⟨b,0,none⟩)]/\∃ F,St w w' b db S0 F):=by
 apply znw;unfold S22;refine zb (zi6 w 256 256) ?_;rintro _ w2 (⟨_,db,rfl,hd⟩|⟨hg,_⟩)
 ·refine⟨(some ⟨db,0,none⟩,0,()),rfl,?_⟩;refine zb (zkW hd) ?_;rintro _ w3 ⟨b,rfl,F,h3⟩;exact⟨(some ⟨b,0,none⟩,0,()),rfl,zd (by rfl) ⟨db,b,rfl,F,h3⟩⟩
 ·rw[zfa]at hg;cases hg
def strt:ByteArray:=ByteArray.mk #[116]
def strs:ByteArray:=ByteArray.mk #[115]
def jf (root snap:Nat):Cat:=([(strt,zaj,root,5,if root=0 then 0 else 3)],[(strs,snap)])
theorem qL (w:World) (root snap:Nat):Calls prog 23 #[.int .u32 (root:Int),.int .u32 (snap:Int)] w (Ret fun v w'=>(∃ x y,v=.agg (zN x y).toArray/\yg w' w.heap.size x y (jf root snap))/\Ext w w'):=by
 apply znx;unfold S23;refine zr fun r1 w1 hb1 he1 hr1 hz1=>?_;have tail:∀ (rows:Int) (n:Nat) {w2:World},rows=(if root=0 then 0 else 3)->Ext w1 w2->Owni x6 62 w2 w1.heap.size (some ⟨n,0,none⟩) 2 2 zaj->
   (zh (.cells #[(.string (ByteArray.mk #[116])),(.slice (some (aD n)) 2 2),(.int .u32 (root:Int)),(.int .u64 (5:Int)),(.int .i64 rows)] 44) fun(r3:Nat)=>
    zh (.cells #[(.string (ByteArray.mk #[115])),(.int .u32 (snap:Int))] 46) fun(r4:Nat)=>
    zc ((#[(.slice (some (aD r3)) 1 1),(.slice (some (aD r4)) 1 1)]:Array Value).size=2)<|
    zt (aD r1) [(.slice (some (aD r3)) 1 1),(.slice (some (aD r4)) 1 1)]<|
    zk [.slc,.slc] (aD r1) fun(u5:(SLC×SLC×Unit))=>(fun w'=>(∃ x y,Value.agg #[(.slice u5.1.1 u5.1.2.1 u5.1.2.2),(.slice u5.2.1.1 u5.2.1.2.1 u5.2.1.2.2)]=.agg (zN x y).toArray/\yg w' w.heap.size x y (jf root snap))/\Ext w w')) w2:=by
  intro rows n w2 hrows he2 ho;refine zr fun r3 w3 hb3 he3 hr3 hz3=>?_;refine zr fun r4 w4 hb4 he4 hr4 hz4=>?_;have he14:=(he2.trans he3).trans he4;have hs2:=he2.size;refine refill (vs:=zN (some ⟨r3,0,none⟩,1,1) (some ⟨r4,0,none⟩,1,1)) (hb1.ext he14) (by rfl) (yD _ _) (by rfl) ?_;intro w5 hb5 hx5 hk5 hz5;have he5:=hx5 w (he1.trans he14) (by omega);have hk3:Blk w5 r3 (yu.flat [(strt,(some ⟨n,0,none⟩,2,2),root,5,rows)]) 44:=by
   have:Blk w4 r3 (yu.flat [(strt,(some ⟨n,0,none⟩,2,2),root,5,rows)]) 44:=hb3.ext he4;exact(hk5 r3 (by omega)).trans this
  have hk4:Blk w5 r4 (qc.flat [(strs,snap)]) 46:=(hk5 r4 (by omega)).trans hb4;have o5:Only (fun k=>k=r1) w4 w5:=⟨he5.os.trans (he1.trans he14).os.symm,he5.tape.trans (he1.trans he14).tape.symm,he5.output.trans (he1.trans he14).output.symm,Nat.le_of_eq hz5.symm,fun k _ hk=>hk5 k hk⟩;have hor:=ho.row;refine zZ (ls:=xW) (yN (some ⟨r3,0,none⟩,1,1) (some ⟨r4,0,none⟩,1,1)) hb5 (by rfl) ⟨⟨_,_,rfl,⟨[(strt,(some ⟨n,0,none⟩,2,2),root,5,rows)],j8 hk3 rfl (by show 1<=9223372036854775807;omega) (by omega),rfl,fun i hi=>?_⟩,j8 hk4 rfl (by show 1<=9223372036854775807;omega) (by omega)⟩,he5⟩;have hi:i<1:=hi;obtain rfl:i=0:=by omega
  refine⟨rfl,?_,?_⟩
  ·show(root,5,rows)=(root,5,_);rw[hrows]
  ·exact(((ho.ext he3).ext he4).only o5 (fun j hj e=>by have:=hor j hj;have:j=r1:=e;omega)).lower (by omega)
 by_cases h0:root=0
 ·refine zd (bne_eq_false_iff_eq.2 (by rw[h0];rfl)) ?_;refine zb (zhu w1) ?_;rintro _ w2 ⟨n,rfl,ho,he2⟩;refine⟨(some ⟨n,0,none⟩,2,2),rfl,?_⟩;exact tail 0 n (by rw[if_pos h0]) he2 ho
 ·refine zf (bne_iff_ne.2 (by omega)) ?_;refine zb (zhu w1) ?_;rintro _ w2 ⟨n,rfl,ho,he2⟩;refine⟨(some ⟨n,0,none⟩,2,2),rfl,?_⟩;exact tail 3 n (by rw[if_neg h0]) he2 ho
theorem zeB (root snap:Nat):ku (jf root snap)=true:=by
 refine vT.2 ⟨by show 1<=16;omega,by show 1<=16;omega,fun e he=>?_,fun s hs=>?_,rfl,rfl⟩
 ·rw[mem_singleton.1 he];refine⟨by kernel_rfl,zoO,?_,?_,by show 5<_;omega⟩
  ·show 0<=(if root=0 then (0:Int) else 3)/\(if root=0 then (0:Int) else 3)<=4096;split<;>omega
  ·show root=0↔(if root=0 then (0:Int) else 3)=0;split
   ·rename_i h;exact⟨fun _=>rfl,fun _=>h⟩
   ·rename_i h;exact⟨fun e=>absurd e h,fun e=>by omega⟩
 ·rw[mem_singleton.1 hs]
  kernel_rfl
theorem ziI (root snap:Nat):(qa (jf root snap)).length=27:=by
 unfold qa jf;simp only [flatMap_cons,List.flatMap_nil,append_nil,jd,ju,length_cons,length_append,uq,zv,length_nil];have h1:strt.size=1:=by kernel_rfl
 have h2:strs.size=1:=by kernel_rfl
 have h3:(xl zaj).length=7:=by kernel_rfl
 omega
theorem zh8 (w:World):Calls prog 9 #[] w (Ret fun v w'=>v=.bool true/\Ext w w'):=by
 apply zoW;unfold S9;refine zb (zdc w) ?_;rintro _ w1 ⟨db,b,rfl,F,h1⟩;refine⟨(some ⟨db,0,none⟩,some ⟨b,0,none⟩,()),rfl,zd (by rfl) ?_⟩;have q1:([]:List (Int×ByteArray)).length<=500000:=by simp
 refine zb (uQ (x:=(none,0,0)) (y:=(none,0,0)) (c:=vz) (R:=[]) (H:=[]) (M:=none) h1.sp (fun w' o=>(zes w' 0).cat) (by rfl) (by exact uS) (by rw[zeA];simp) (by rw[zai];omega) (by rw[zai,zjO];show 2<=_;omega) (by
  rw[uT,zai,zcK];decide) (fun v hv=>by cases hv)) ?_
 rintro _ w2 (⟨_,rfl,hst⟩|⟨hne,_⟩);rotate_left
 ·exact absurd rfl hne
 refine⟨(0,0,()),rfl,?_⟩;obtain⟨F2,h2,_⟩:=h1.step hst;refine zb (qL w2 0 0) ?_;rintro _ w3 ⟨⟨x,y,rfl,hc3⟩,he3⟩;refine⟨yN x y,rfl,?_⟩;have h3:=h2.ext' he3;have hsafe:=(St.own h2.sp hc3).mono (fun _ h=>h.cat);have hlen:=ziI 0 0;refine zb (uQ (x:=x) (y:=y) (c:=jf 0 0) (R:=[]) (H:=[]) (M:=none) h3.sp hsafe (zeB 0 0) (by exact uS) (by rw[zeA];simp) (by rw[zai];omega) (by rw[zai,zjO,hlen];omega) (by
  rw[uT,zai,zcK,hlen];decide) (fun v hv=>by cases hv)) ?_
 rintro _ w4 (⟨hne,_⟩|⟨_,S',n,ls,rfl,hP,hst⟩)
 ·exact absurd hne (by unfold jf vz;simp)
 refine⟨((n:Int),0,()),rfl,?_⟩;obtain⟨F4,h4,_⟩:=h3.step hst;have hu:=hP.great.good.well.root n mem_cons_self;refine zb (zcw h4.sp hP.great.good hP.pg hu) ?_;rintro _ w5 ⟨⟨x5,y5,rfl,hc5⟩,he5⟩;refine⟨(yN x5 y5,0,()),rfl,?_⟩;refine yn (vs:=zN x5 y5) (by rfl) (yD _ _) (fun r6 w6 hb6 he6 hr6=>?_) (by rfl);refine zM fun w7 he7 hz7 hh7=>?_;have hn2:=(zI.1 hu).1;have he57:=he6.trans he7;refine zf (by rfl) (zf (by rfl) (zf (by rfl) (zf (bne_iff_ne.2 (by dsimp only;omega)) (zf (by rfl) ?_))));refine zZ (ls:=xW) (yN x5 y5) (hb6.ext he7) (by rfl) ?_;refine zb (qL w7 0 0) ?_;rintro _ w8 ⟨⟨x8,y8,rfl,hc8⟩,he8⟩;refine⟨yN x8 y8,rfl,?_⟩;refine xy (zaN ((hb6.ext he7).ext he8)) ?_;refine zb (zeu (hc5.ext (he57.trans he8)).cat hc8.cat) ?_;rintro _ w9 ⟨⟨v,rfl,hv⟩,he9⟩;refine⟨_,rfl,?_,h4.ext.trans ((he5.trans (he57.trans he8)).trans he9)⟩;rw[hv.2 rfl]
end V
/- Law 24:light catalogs;roots as 1;CatalogBytes. -/
namespace V
open Go Go.Proofs Go.RowKit Crc
variable {w w':World}
end V
/- Catalogs' names,in order:plain. -/
namespace V
open Go Go.Proofs Go.RowKit Crc
end V
/- Cells,and whether they may be:contracts of value.Check and of the document's answer. -/
namespace V
open Go Go.Proofs Go.RowKit
end V
/- Contracts of rows,of what is taken and picked (schema),and of the document's answer. -/
set_option maxRecDepth 100000
namespace V
open Go Go.Proofs Go.RowKit
end V
/- Contracts of the package shadowbookref24:Check. -/
namespace V
open Go Go.Proofs Go.RowKit Crc
variable {w w':World}
end V
/- Contracts of the package catalog:Share. -/
namespace V
open Go Go.Proofs Go.RowKit Crc
variable {w w':World} {b db:Nat} {S:Spa} {F:Nat->Prop} {R H:List Nat} {M:Option (List Nat)}
theorem zdd (x y:SLC) (c:Cat):(zL x y c).map (fun p=>p.2.2)=z7 c:=by
 have:=zbt x y c;unfold z7;rw[<- this,map_map];rfl
theorem zfG {x y:SLC} {c:Cat} {Asp:Option Addr} {n k i:Nat} {B0:Nat} {K:Int->WP} (hC:xo w x y c) (hs:Owni spE 140 w B0 Asp n k ((zL x y c).map spP)) (hi:i<(zL x y c).length) (hn:n=(zL x y c).length)
  (hK:∀ w' (p:Spt),Ext w w'->(zL x y c)[i]?=some p->K (p.2.2:Int) w'):
  (zc (0<=(i:Int)/\(i:Int)<((n:Nat):Int))<|
   zi Asp fun(p5:Addr)=>
   zk [(.int .u64),.ptr] (p5.add (Int.toNat (i:Int)*2)) fun(u6:(Int×Option Addr×Unit))=>
   zh (.cells #[(.int .u64 (0:Int)),(.pointer none)] 140) fun(r7:Nat)=>
   zc ((#[(.int .u64 u6.1),(.pointer u6.2.1)]:Array Value).size=2)<|
   zt (aD r7) [(.int .u64 u6.1),(.pointer u6.2.1)]<|
   ldW .ptr ((aD r7).add 1) fun(u8:Option Addr)=>
   zi u8 fun(p9:Addr)=>ldW (.int .u32) p9 K) w:=by
 have eg:(zL x y c)[i]?=some ((zL x y c)[i]'hi):=List.getElem?_eq_getElem hi;have hmem:(zL x y c)[i]'hi∈zL x y c:=getElem_mem hi;generalize (zL x y c)[i]'hi=p at *;refine xT hs.sl (by omega) (x:=spP p) (by rw[Int.toNat_natCast,List.getElem?_map,eg];rfl) rfl ?_;intro pa hpa hca;refine qp (ls:=[.int .u64,.ptr]) (x:=((p.1:Int),some p.2.1,())) hca ?_;refine yn (vs:=[.int .u64 (p.1:Int),.pointer (some p.2.1)]) (by rfl) (by
  intro v hv
  simp only [mem_cons,not_mem_nil,or_false]at hv
  rcases hv with rfl|rfl<;>rfl) (fun r7 w1 hb1 he1 hr1=>?_) (by rfl)
 refine zn 1 (some p.2.1) hb1 (by rfl) (zs ?_);exact za8 (l:=.int .u32) (x:=((p.2.2:Nat):Int)) (he1.cell (zaD hC p hmem)) (hK w1 p he1 eg)
theorem zfb (h:zV w b db S F) {x y:SLC} {c:Cat} (hC:Safe F w fun w=>xo w x y c) (h1:c.1.length<=1000) (h2:c.2.length<=1000) (hg:Great S R H M) (hu:∀ v∈z7 c,zE S.sup.pages S.now v=true) (h6:∀ v∈z7 c,S.now.getD v 0+(z7 c).length<65535):
  Calls prog 30 #[.pointer (some ⟨b,0,none⟩),.agg (zN x y).toArray] w (Ret fun v w'=>v=.int .i64 0/\∃ c':List Nat,Great { S with now:=c' } (z7 c++R) H M/\yw w b db F { S with now:=c' } w'/\∀ k,c'.getD k 0=S.now.getD k 0+(z7 c).count k):=by
 apply zil;unfold S30;have hFlt:=h.lt;refine zr fun r1 w1 hb1 he1 hr1 hz1=>?_;have hb1:Blk w1 r1 (zN x y) 25:=hb1;refine zb (vL hb1 (hC.now.ext he1) h1 h2) ?_;rintro _ w2 ⟨Asp,ksp,rfl,hsp,he2⟩;refine⟨(Asp,(zL x y c).length,ksp),rfl,?_⟩;have he02:=he1.trans he2;have hs1:=he1.size;have hrs:=zdd x y c;have hspl:=zag x y c;have hkv:=zhd c;have hrl:(z7 c).length=(zL x y c).length:=by rw[<- hrs,length_map]
 have hsafe:Safe F w2 (fun w=>xo w x y c/\Owni spE 140 w w1.heap.size Asp (zL x y c).length ksp ((zL x y c).map spP)):=fun w3 o=>⟨(hC.ext he02) w3 o,hsp.only o (fun j hj hf=>by have:=hsp.row j hj;have:=hFlt j hf;omega)⟩;refine zz (fun q w'=>∃ (i:Nat) (F':Nat->Prop) (c':List Nat),i<=(zL x y c).length/\q=((i:Int),())/\zV w' b db { S with now:=c' } F'/\(∀ k,F' k->F k\/w.heap.size<=k)/\Only F w w'/\Great { S with now:=c' } (((z7 c).take i).reverse++R) H M/\(∀ k,c'.getD k 0=S.now.getD k 0+((z7 c).take i).count k)/\Safe F' w' (fun w=>xo w x y c/\Owni spE 140 w w1.heap.size Asp (zL x y c).length ksp ((zL x y c).map spP))) (fun q=>((zL x y c).length-q.1).toNat)
  ⟨0,F,S.now,by omega,rfl,h.ext he02,fun k hk=>.inl hk,Only.zB he02,by exact hg,fun k=>by simp,hsafe⟩ ?_
 rintro _ w3 ⟨i,F',c',hi,rfl,g1,g2,g3,g4,g5,g6⟩;dsimp only
 by_cases hlt:i<(zL x y c).length
 ·refine zf (decide_eq_true (by omega)) ?_;refine zfG g6.now.1 g6.now.2 hlt rfl ?_;intro w4 p he4 hp;have hpr:(z7 c)[i]?=some p.2.2:=by rw[<- hrs,List.getElem?_map,hp];rfl
  have hmem:=mem_of_getElem? hpr;have hcnt:((z7 c).take i).count p.2.2<=(z7 c).length:=by
   have:=List.count_le_length (a:=p.2.2) (l:=(z7 c).take i);rw[length_take]at this;omega
  have h6':=h6 _ hmem;have huu:=hu _ hmem;have hu':zE S.sup.pages c' p.2.2=true:=by
   obtain⟨u1,u2,u3⟩:=zI.1 huu;exact zI.2 ⟨u1,u2,by rw[g5];omega⟩
  have h65:c'.getD p.2.2 0<65535:=by rw[g5];omega
  refine zb (zgV (g1.ext he4) (n:=p.2.2) g4 (by exact hu') (by exact h65)) ?_;rintro _ w5 ⟨rfl,hG,F5,k1,k2,k3⟩;refine⟨_,rfl,zd (by rfl) ?_⟩;have hw:wrap .i64 ((i:Int)+1)=((i+1:Nat):Int):=by rw[wrap_i64 (by omega) (by omega)];rfl
  rw[hw];have o35:Only F' w3 w5:=Only.trans (Only.zB he4) k3 (fun j hj=>.inl hj);have hs4:=he4.size;have htk:(z7 c).take (i+1)=(z7 c).take i++[p.2.2]:=by
   have hlt':i<(z7 c).length:=by omega
   rw[take_succ_eq_append_getElem hlt'];rw[List.getElem?_eq_getElem hlt']at hpr;injection hpr with hpr
   rw[hpr]
  have hnN:p.2.2<c'.length:=by
   have h1:=g4.good.well.lt hu';have h2:=g4.good.ok.now;have h3:({ S with now:=c' }:Spa).now.length=({ S with now:=c' }:Spa).N:=h2;have h4:p.2.2<({ S with now:=c' }:Spa).N:=h1;have h5:c'.length=({ S with now:=c' }:Spa).N:=h3;omega
  refine⟨⟨i+1,F5,_,by omega,rfl,k1,fun k hk=>?_,Only.trans g3 o35 (fun j hj=>by
   have:=g2 j hj
   exact this),by rw[htk,List.reverse_append];exact hG,fun k=>?_,g6.step o35 (fun k hk=>?_)⟩,by omega⟩
  ·rcases k2 k hk with e|e
   ·exact g2 k e
   ·have:=g3.2.2.2.1;exact .inr (by omega)
  ·rw[yr,htk,List.count_append,List.count_singleton]
   by_cases e:p.2.2=k
   ·subst e;rw[if_pos ⟨rfl,hnN⟩,g5];simp;omega
   ·rw[if_neg (fun e'=>e e'.1),g5];simp[e]
  ·rcases k2 k hk with e|e
   ·exact .inl e
   ·exact .inr (by omega)
 ·obtain rfl:i=(zL x y c).length:=by omega
  refine zd (decide_eq_false (by omega)) ?_;rw[take_of_length_le (by omega)]at g4 g5;exact⟨rfl,c',g4.perm (by exact(List.reverse_perm _).append_right R),⟨F',g1,g2,g3⟩,g5⟩
end V
/- Law 24:a catalog whose roots are pages of one's own. -/
namespace V
open Go Go.Proofs Go.RowKit Crc
variable {w0 w w':World} {b db:Nat} {S S':Spa} {F:Nat->Prop} {l:List Nat}
variable {r1 r2 B0:Nat} {x y:SLC} {raws:List Raw} {es:List Ent} {ss:List Snp}
end V
/- Law 24:a catalog whose roots are pages of one's own;the walk. -/
namespace V
open Go Go.Proofs Go.RowKit Crc
variable {w0 w w':World} {b db:Nat} {S S':Spa} {F:Nat->Prop} {l:List Nat}
variable {r1 r2 B0:Nat} {x y:SLC} {raws:List Raw} {es:List Ent} {ss:List Snp}
end V
/- Contracts of the package catalog:Get of no page;of a page that can not be got. -/
namespace V
open Go Go.Proofs Go.RowKit Crc
variable {w w':World} {b db:Nat} {S:Spa} {F:Nat->Prop} {R:List Nat}
theorem zfT (w:World) (p:Option Addr):Calls prog 25 #[.pointer p,.int .u32 0] w (Ret fun v w'=>v=.tuple #[.agg (zN (none,0,0) (none,0,0)).toArray,.int .i64 0]/\Ext w w'):=by
 apply zeO;unfold S25;refine zr fun r1 w1 hb1 he1 hr1 hz1=>?_;refine zf (by rfl) ?_;refine refill (vs:=zN (none,0,0) (none,0,0)) hb1 (by rfl) (yD _ _) (by rfl) ?_;intro w2 hb2 hx2 hk2 hz2;refine zZ (ls:=xW) (yN (none,0,0) (none,0,0)) hb2 (by rfl) ⟨rfl,hx2 w he1 (by omega)⟩
end V
/- Law 24:CatalogShares;what was put twice,and then dropped once. -/
namespace V
open Go Go.Proofs Go.RowKit Crc
variable {w0 w w':World} {b db:Nat} {S S':Spa} {F:Nat->Prop} {R H l:List Nat} {M:Option (List Nat)}
theorem Owni.some_ {α:Type} {E:Enc α} {e:TypeId} {B0:Nat} {A:Option Addr} {n c:Nat} {xs:List α} (h:Owni E e w B0 A n c xs) (hn:0<n):∃ g,A=some ⟨g,0,none⟩:=by
 rcases h.2 with ⟨hv,h2⟩|⟨g,cap,cur,hv,_⟩
 ·have:n=0:=h2;omega
 ·injection hv with hv
  exact⟨g,hv⟩
end V
/- Owned pages without kids:nothing else is used;how much is free. -/
namespace V
open Go Go.Proofs Go.RowKit Crc
variable {S S':Spa} {R:List Nat}
theorem zh9 (hg:Good S R) (hR:∀ r∈R,z6 S.page r=[]) {n:Nat} (hn:zE S.sup.pages S.now n=true):S.now.getD n 0=R.count n:=by
 obtain⟨rk,hr⟩:=hg.well.rank;have parent:∀ m,zE S.sup.pages S.now m=true->m∉R->∃ k,k<S.N/\zE S.sup.pages S.now k=true/\m∈z6 S.page k:=by
  intro m hm hmR;obtain⟨a1,a2,a3⟩:=zI.1 hm;have hs:=hg.well.sum m a1 a2;rw[List.count_eq_zero.2 hmR,Nat.zero_add]at hs;apply Classical.byContradiction;intro hno;have:jt S.N S.sup.pages S.page S.now m=0:=by
   unfold jt;rw[zad (g:=fun _=>0) (fun k hk=>by
    unfold xq
    split
    ·rename_i huk
     exact List.count_eq_zero.2 (fun hmem=>hno ⟨k,hk,huk,hmem⟩)
    ·rfl)]
   exact vR S.N
  omega
 have nokids:∀ m,m<S.N->zE S.sup.pages S.now m=true->z6 S.page m=[]:=by
  intro m hmN hm;apply Classical.byContradiction;intro hk;obtain⟨q,q1,q2,q3⟩:=zbx (U:=fun k=>zE S.sup.pages S.now k&&!(z6 S.page k).isEmpty) rk S.N ⟨m,hmN,by rw[hm,Bool.true_and,Bool.not_eq_true'];simpa using hk⟩;rw[Bool.and_eq_true,Bool.not_eq_true']at q2;have hqk:z6 S.page q≠[]:=by simpa using q2.2
  obtain⟨p,p1,p2,p3⟩:=parent q q2.1 (fun hh=>hqk (hR q hh));have h1:=hr p p2 q p3;have h2:=q3 p p1 (by rw[p2,Bool.true_and,Bool.not_eq_true'];cases hz:z6 S.page p with
   |nil=>rw[hz]at p3;cases p3
   |cons _ _=>rfl)
  omega
 obtain⟨a1,a2,a3⟩:=zI.1 hn;have hs:=hg.well.sum n a1 a2;have:jt S.N S.sup.pages S.page S.now n=0:=by
  unfold jt;rw[zad (g:=fun _=>0) (fun k hk=>by
   unfold xq
   split
   ·rename_i huk
    rw[nokids k hk huk];rfl
   ·rfl)]
  exact vR S.N
 omega
theorem zdM (hg:Good S R) (hR:∀ r∈R,z6 S.page r=[]) {n:Nat} (h2:2<=n) (hp:n∉S.sup.pages):S.now.getD n 0=R.count n:=by
 cases hu:zE S.sup.pages S.now n with
 |true=>exact zh9 hg hR hu
 |false=>
  have h0:S.now.getD n 0=0:=by
   cases hq:S.now.getD n 0 with
   |zero=>rfl
   |succ k=>rw[zI.2 ⟨h2,hp,by omega⟩]at hu;cases hu
  rw[h0,List.count_eq_zero.2 (fun hm=>by rw[hg.well.root n hm]at hu;cases hu)]
theorem zkX (h:Great S R [] none) (h':Great S' R [] none) (hk:∀ r∈R,z6 S.page r=[]) (hk':∀ r∈R,z6 S'.page r=[]) (hs:S'.sup=S.sup) (hh:S'.held=S.held) (hm:S'.mark=S.mark):S'.zQ=S.zQ:=by
 have hP:=h.heldOK.zfZ h.good;have hP':=h'.heldOK.zfZ h'.good;have hN:S'.N=S.N:=by unfold Spa.N;rw[hs]
 unfold Spa.zQ Spa.ye;rw[hN];congr 1;refine List.filter_congr (fun n hn=>?_)
 by_cases h2:2<=n
 ·rw[decide_eq_true h2,Bool.true_and,Bool.true_and,Bool.eq_iff_iff,zP,zP,hh,hm]
  by_cases hp:n∈S.sup.pages
  ·have a1:=(hP.at_ n hp).2.2;have a2:=(hP'.at_ n (by rw[hs];exact hp)).2.2;rw[a1,a2]
  ·rw[zdM h.good hk h2 hp,zdM h'.good hk' h2 (by rw[hs];exact hp)]
 ·rw[decide_eq_false h2,Bool.false_and,Bool.false_and]
section
variable {w w':World} {F:Nat->Prop}
abbrev FrX (F:Nat->Prop) (r:Nat):Nat->Prop:=fun k=>F k\/k=r
theorem Safe.box {P:World->Prop} {r:Nat} (h:Safe F w P) (he:Ext w w') (hr:w.heap.size<=r):Safe (FrX F r) w' P:=fun w2 o=>h w2 (Only.trans (Only.zB he) o (fun j hj=>by
 rcases hj with e|e
 ·exact .inl e
 ·exact .inr (by omega)))
theorem Safe.fill {P:World->Prop} {r:Nat} (h:Safe (FrX F r) w P) (o:Only (fun k=>k=r) w w'):Safe (FrX F r) w' P:=h.step (o.mono fun k hk=>.inr hk) (fun k hk=>.inl hk)
theorem zhv {T:Type} {A:(T->WP)->WP} {B:T->WP} (v:T) (hA:∀ J:T->WP,J v w->A J w) (hB:B v w):yC T A B w:=
 yk (fun q w'=>q=v/\w'=w) (by rintro _ _ ⟨rfl,rfl⟩;exact hB) (fun J hJ=>hA J (hJ _ _ ⟨rfl,rfl⟩))
end
end V
/- Contracts of the package catalog:Get of a leaf of words. -/
namespace V
open Go Go.Proofs Go.RowKit Crc
variable {w w':World} {b db:Nat} {S:Spa} {F:Nat->Prop} {R:List Nat}
theorem zia (h:zV w b db S F) {n k v:Nat} {p:Page} (hn0:n≠0) (hn:n<4294967296) (hg:S.get n=(p,0)) (hd:xZ p ((4:UInt8),[k],[v],[])):
  Calls prog 79 #[.pointer (some ⟨b,0,none⟩),.int .u32 (n:Int)] w (Ret fun v w'=>v=.int .i64 0/\Ext w w'):=by
 apply zio;unfold S79;refine zd (by rfl) (zd (beq_eq_false_iff_ne.2 (by omega)) ?_);refine zb (zck h hn hg hd (by show(4:UInt8)≠3;decide) (by show 1<=5000;omega) (deep:=1) (by omega)) ?_;rintro _ w1 ⟨rfl,he1⟩;refine⟨(shT _ _ _ _ _,0,()),rfl,?_⟩;refine yn (vs:=shV _ _ _ _ _) (by rfl) (uo _ _ _ _ _) (fun r2 w2 hb2 he2 hr2=>?_) (by rfl);exact⟨rfl,he1.trans he2⟩
theorem zib (h:zV w b db S F) {n kq vq:Nat} {p:Page} (hn0:n≠0) (hn32:n<4294967296) (hg:S.get n=(p,0)) (hd:xZ p ((4:UInt8),[kq],[vq],[])) (hp:p.1=4) (hv:vq<18446744073709551616):
  Calls prog 25 #[.pointer (some ⟨b,0,none⟩),.int .u32 (n:Int)] w (Ret fun v w'=>v=.tuple #[.agg (zN (none,0,0) (none,0,0)).toArray,.int .i64 10]/\Ext w w'):=by
 have hFlt:=h.lt;have hlen:([kq]:List Nat).length=([vq]:List Nat).length:=rfl;apply zeO;unfold S25;refine zr fun r1 w1 hb1 he1 hr1 hz1=>?_;have hb1:Blk w1 r1 (zN (none,0,0) (none,0,0)) 25:=hb1;refine zd (beq_eq_false_iff_ne.2 (by omega)) ?_;refine zb (zia (h.ext he1) hn0 hn32 hg hd) ?_;rintro _ w2 ⟨rfl,he2⟩;refine⟨_,rfl,zd (by rfl) ?_⟩;refine zr fun r5 w3 hb5 he3 hr5 hz3=>?_;refine zr fun r6 w4 hb6 he4 hr6 hz4=>?_;have he24:=he3.trans he4;have he04:=(he1.trans he2).trans he24;have hb14:=(hb1.ext he2).ext he24;have hb54:=hb5.ext he4;have hs2:=he2.size;refine zb (zeh (L:=uN [kq] [vq]) (zeg (b:=b) (db:=db) (F:=F) hn32 hg hd (by show(4:UInt8)≠3;decide) (by show 1<=5000;omega) (fun i=>by unfold Nd.val;rw[if_pos rfl];exact qz (l:=[vq]) (fun q hq=>by rw[mem_singleton.1 hq];exact hv) (by omega) i) (ki hlen) (fun j hj=>by unfold Nd.val;rw[if_pos rfl];exact vy hlen hj)) hn0) ?_;rintro v w5 ⟨Q,R0,hit,hR0,hRx,hQl,hQ,he5⟩;refine⟨v,rfl,?_⟩;have hs5:=he5.size;have hL:(uN [kq] [vq]).length=1:=ki hlen;refine zdB (fun i=>((([kq]:List Nat).getD i 0:Int),(([vq]:List Nat).getD i 0:Int),())) ?_ (zpi w b db S F r1 r5 r6 w5.heap.size [kq] [vq % 4294967296]) (fun _ _ _=>False) hit hQl (fun w' w'' hs hS=>hS.same hs (fun hf=>by have:=hFlt _ hf;omega) (fun hf=>by have:=hFlt _ hf;omega)) (fun _ _ _ _=>trivial) (fun V i w' hI=>hI.1) ?_ (fun _ _ _ _ _ hf _ _=>hf.elim) ?_ (fun o=>hRx _ _ hR0 (((Ext.refl w5).alloc _).alloc _)) ?_ ?_ (fun _ _ _ hf _ _=>hf.elim)
 ·intro i hi;exact(List.getElem?_eq_some_iff.1 (vy hlen (by rw[hL]at hi;exact hi))).2.symm
 ·rintro V V' i w' w'' ⟨g1,A1,A2,c1,c2,g2,g3,g4⟩ hO hV hR;have l6:=g2.b6.lt;refine⟨hR,A1,A2,c1,c2,g2.only hO (by omega) ⟨by omega,by omega⟩ g3,fun k hk=>?_,by have:=hO.2.2.2.1;omega⟩;rcases hk with hk|hk
  ·rcases hV k hk with e|e
   ·exact g3 k (.inl e)
   ·exact⟨by omega,fun e2=>by have:=g2.ks.yc _ e2;omega,fun e2=>by have:=g2.vs.yc _ e2;omega⟩
  ·exact g3 k (.inr hk)
 ·intro o;have hx:Ext w5 ((w5.alloc (.deferred (some []))).alloc o):=((Ext.refl w5).alloc _).alloc _;refine⟨(h.ext (he04.trans he5)).ext hx,none,none,0,0,⟨(he04.trans he5).trans hx,(hb14.ext he5).ext hx,(hb54.ext he5).ext hx,(hb6.ext he5).ext hx,Owni.nil _ _ _,Owni.nil _ _ _⟩,fun k hk=>⟨?_,by simp[orow,Value.ownBlock],by simp[orow,Value.ownBlock]⟩,hx.size⟩;rcases hk with hk|hk
  ·have:=hQ k hk;omega
  ·omega
 ·rintro V i hi w' G N jump hI hsz hV hVb hG;have hi':i<([kq]:List Nat).length:=by rw[hL]at hi;exact hi
  obtain rfl:i=0:=Nat.lt_one_iff.1 hi';refine hG _ w' hI (Nat.le_refl _) (fun _ _=>rfl) ?_;rintro w2' ⟨g1,A1,A2,c1,c2,g2,g3,g4⟩ hs2' hk2 hNC hN' hJ';dsimp only;refine zev (z:=vq % 4294967296) g2 ⟨by omega,by omega,by omega⟩ (by omega) (by rw[wrap_u32];show((vq:Nat):Int) % 4294967296=_;omega) ?_;intro A1' A2' c1' c2' w3' g5 o5 n1 n2;have hnr:∀ k,V k\/k=w5.heap.size\/k=w5.heap.size+1->¬(k=r5\/k=r6\/orow A1=some k\/orow A2=some k)/\k<w2'.heap.size:=fun k hk=>by
   obtain⟨q1,q2,q3⟩:=g3 k hk;refine⟨fun e=>?_,?_⟩
   ·rcases e with e|e|e|e
    ·omega
    ·omega
    ·exact q2 e
    ·exact q3 e
   ·rcases hk with hk|hk
    ·have:=(hV k hk).1;omega
    ·omega
  have hsp':zV w3' b db S F:=g1.only o5 (fun j hj e=>by
   have:=hFlt j hj
   rcases e with e|e|e|e
   ·omega
   ·omega
   ·have:=g2.ks.row j e;omega
   ·have:=g2.vs.row j e;omega)
  refine hN' w3' hsp' ⟨hsp',A1',A2',c1',c2',by exact g5,fun k hk=>?_,by have:=o5.2.2.2.1;omega⟩ o5.2.2.2.1 (fun k hk=>?_)
  ·obtain⟨q1,q2,q3⟩:=g3 k hk;obtain⟨_,q4⟩:=hnr k hk;refine⟨q1,fun e=>?_,fun e=>?_⟩
   ·rcases n1 k e with e|e
    ·exact q2 e
    ·omega
   ·rcases n2 k e with e|e
    ·exact q3 e
    ·omega
  ·have hk:V k\/k=w5.heap.size\/k=w5.heap.size+1:=by
    rcases hk with e|e|e
    ·exact .inr (.inl e)
    ·exact .inr (.inr e)
    ·exact .inl e
   obtain⟨q1,q2⟩:=hnr k hk;exact o5.2.2.2.2 k q2 q1
 ·rintro V w' ⟨g1,A1,A2,c1,c2,g2,g3,g4⟩ _ hsz hdf;rw[qT];rw[hL]at g2;refine zb (zcv (res:=false) g1 hn32 (by rw[hg]) (.inl ⟨by rw[hg,hp];decide,by rw[hg,hp];rfl⟩)) ?_;rintro _ w6 ⟨rfl,he6⟩;refine⟨_,rfl,zf (by rfl) ?_⟩;have g6:=g2.ext' he6;have hdf6:=he6.heap hdf;have hs6:=he6.size;have hs5':=he04.size;refine refill (vs:=zN (none,0,0) (none,0,0)) g6.b1 (by rfl) (yD _ _) (by rfl) ?_;intro w12 hb12 hx12 hk12 hz12;have he12:=hx12 w g6.ext (by omega);have hl1:=hb1.lt;refine ja (by rw[hk12 _ (by omega)];exact hdf6) ?_;have hsb:=zX (a:=w5.heap.size) (b:=w5.heap.size+1) (w:=w12) (o:=.deferred none) (.inl rfl);refine zZ (ls:=xW) (yN (none,0,0) (none,0,0)) (hsb.blk hb12 (by omega)) (by rfl) ?_;exact⟨rfl,hsb.ext he12 (by omega)⟩
end V
/- Law 24:CatalogNames,its parts. -/
namespace V
open Go Go.Proofs Go.RowKit Crc
variable {w0 w w':World} {b db:Nat} {S S':Spa} {F:Nat->Prop} {R:List Nat}
def qo:List UInt8:=[1,1,116,2,3,1,107,129,1,118,5,0,0,0,0,0,0,0,0,0,0,0,0,1,1,115,1]
theorem zde:qa (jf 0 7)=qo:=by kernel_rfl
theorem zjP:qs qo=(jf 0 1,0):=by
 rw[<- zde,zen (vT.1 (zeB 0 7))];rfl
theorem zjQ:qs (qo++[120])=(vz,240):=zfz (by decide+kernel)
theorem zkY:qs (qo.take 26++[2])=(vz,240):=zfz (by decide+kernel)
def e00:Ent:=(strt,zaj,0,5,0)
def e90:Ent:=(strt,zaj,9,5,0)
theorem zkZ:ku ([e00,e00],[(strs,0)])=false:=by decide+kernel
theorem zmX:ku ([e90],[(strs,0)])=false:=by decide+kernel
theorem zjR:zez ([e00,e00],[(strs,0)]) strt=(0,0):=by decide+kernel
theorem zjS:zez ([e00,e00],[(strs,0)]) (ByteArray.mk #[117])=(0,210):=by decide+kernel
def zby:Nat:=3978425819141910832
def zne:ByteArray:=ByteArray.mk #[48,49,50,51,52,53,54,55,48,49,50,51,52,53,54,55]
def zf2:Page:=((4:UInt8),[],zne)
def zpy:Page:=((7:UInt8),[],ByteArray.mk #[120])
theorem zmY:zne=mkB (k8B [zby,zby]):=by kernel_rfl
theorem zoP:xZ zf2 ((4:UInt8),[zby],[zby],[]):=by
 unfold zf2;rw[zmY];exact xZ.leaf zby zby (by unfold zby;omega) (by unfold zby;omega)
theorem zhw (h:zV w b db S F) {x y:SLC} {c:Cat} (hC:Safe F w fun w=>xo w x y c) (h1:c.1.length<=1000) (h2:c.2.length<=1000) {k:Nat} {ks:List Nat} (hr:z7 c=k::ks) (hk:k<4294967296) (hs:(S.share k).2≠0):
  Calls prog 30 #[.pointer (some ⟨b,0,none⟩),.agg (zN x y).toArray] w (Ret fun v w'=>v=.int .i64 (S.share k).2/\yw w b db F (S.share k).1 w'):=by
 apply zil;unfold S30;have hFlt:=h.lt;refine zr fun r1 w1 hb1 he1 hr1 hz1=>?_;have hb1:Blk w1 r1 (zN x y) 25:=hb1;refine zb (vL hb1 (hC.now.ext he1) h1 h2) ?_;rintro _ w2 ⟨Asp,ksp,rfl,hsp,he2⟩;refine⟨(Asp,(zL x y c).length,ksp),rfl,?_⟩;have he02:=he1.trans he2;have hrs:=zdd x y c;rw[hr]at hrs;have hlen:0<(zL x y c).length:=by
  have:=congrArg List.length hrs;rw[length_map,length_cons]at this;omega
 refine zz (fun q w'=>q=((0:Int),())/\w'=w2) (fun q=>0) ⟨rfl,rfl⟩ ?_;rintro _ w3 ⟨rfl,rfl⟩;dsimp only;refine zf (decide_eq_true (by omega)) ?_;refine zfG (i:=0) (hC.now.ext he02) hsp hlen rfl ?_;intro w4 p he4 hp;have hpk:p.2.2=k:=by
  have:((zL x y c).map fun p=>p.2.2)[0]?=some p.2.2:=by rw[List.getElem?_map,hp];rfl
  rw[hrs]at this;exact(Option.some.inj this).symm
 rw[hpk];obtain⟨Fd,xx,hb,hr',nb,nr,m,h'⟩:=h.ext (he02.trans he4);refine zb (zc5 h' (n:=k) hk) ?_;rintro _ w5 ⟨rfl,hS,hO⟩;refine⟨_,rfl,zf (bne_iff_ne.2 hs) ⟨rfl,F,⟨Fd,xx,hb,hr',nb,nr,m,hS⟩,fun k hk=>.inl hk,Only.trans (Only.zB (he02.trans he4)) hO (fun j hj=>.inl hj)⟩⟩
theorem ziJ (h:zV w b db S F) (hg:Great S R [] none) (hr0:S.r0=238) (hpen:S.dev.pen.length<=900000) (hf:S.sup.pages.length+1<=S.zQ) {p:Page} (hp:p.2.1=[]) (ht:3<=p.1.toNat) (hd:p.2.2.size<=238):
  Calls prog 24 #[.pointer (some ⟨b,0,none⟩),.agg (pgV p (none,0,0)).toArray] w (Ret fun v w'=>∃ (S':Spa) (k:Nat),v=.tuple #[.int .u32 (k:Int),.int .i64 0]/\kZ S S' p k/\Great S' (k::R) [] none/\yw w b db F S' w'):=by
 have hroom:S.room 0=(238:Nat):=by rw[(xJ hg.good.dims).1,hr0]
 refine(zkw (p:=p) (A:=none) (n:=0) (c:=0) (R:=R) (H:=[]) (M:=none) h (by rw[hp];exact hg) hpen (by rw[hp];exact Sli.nil _ _) (fun a ha=>by cases ha) ht (by rw[hroom,hp];show(0:Int)<=_;decide) (by omega)).mono (Ret.mono ?_);rintro v w2 ⟨S',k,e,rfl,hR,hst⟩;rcases hR with ⟨_,_,_,hbig⟩|⟨_,_,_,hfull⟩|⟨rfl,hP,hG,_,_⟩
 ·rw[hp]at hbig;have hbig:S.room 0<(p.2.2.size:Int):=hbig;rw[hroom]at hbig;omega
 ·omega
 ·exact⟨S',k,rfl,hP,hG,hst⟩
end V
/- Law 24:CatalogNames. -/
namespace V
open Go Go.Proofs Go.RowKit Crc
section
variable {w0 w w':World} {b db:Nat} {S S':Spa} {F:Nat->Prop}
theorem Safe.and {P Q:World->Prop} (h:Safe F w P) (k:Safe F w Q):Safe F w (fun w=>P w/\Q w):=fun w' o=>⟨h w' o,k w' o⟩
theorem St.box {r:Nat} {cs:List Value} {t:TypeId} (h:zV w b db S F) (hb:Blk w' r cs t) (hr:w.heap.size<=r):Safe F w' (fun w=>Blk w r cs t):=fun w2 o=>hb.only o (fun hf=>by have:=h.lt _ hf;omega)
theorem xo.zpz {x y:SLC} {c:Cat} {k:Nat} {K:Int->WP} (h:xo w x y c) (hc:(c.1.getD 0 yb).2.2.1=k) (hl:0<c.1.length) (hK:K (k:Int) w):
  (zc (0<=(0:Int)/\(0:Int)<((x.2.1:Nat):Int))<|zi x.1 fun(p15:Addr)=>ldW (.int .u32) ((p15.add (Int.toNat (0:Int)*5)).add 2) K) w:=by
 obtain⟨⟨raws,hT⟩,_⟩:=h;have h1:=hT.len;have hxl:=hT.sl.len;refine zcC (E:=yu) 2 (fun e:Raw=>((e.2.2.1:Nat):Int)) yl hT.sl (fun _=>rfl) rfl (by omega) (by omega) ?_;show K (((raws.getD 0 yl).2.2.1:Nat):Int) w;rw[show(raws.getD 0 yl).2.2.1=(c.1.getD 0 yb).2.2.1 by rw[(hT.at_ 0 hl).rest],hc];exact hK
theorem yg.zpA {B0 r:Nat} {X Y:SLC} {c:Cat} {cs:List Value} (h:yg w B0 X Y c) (hb:Blk w r cs 25) (o:Only (fun k=>k=r) w w'):yg w' B0 X Y c:=by
 obtain⟨⟨raws,hT⟩,hS⟩:=h;refine⟨⟨raws,hT.row.only o (fun j hj e=>Owni.neB hT.row hb (by decide) j hj e),hT.len,fun i hi=>?_⟩,hS.only o (fun j hj e=>Owni.neB hS hb (by decide) j hj e)⟩;have hE:=hT.at_ i hi;exact⟨hE.name,hE.rest,hE.cols.only o (fun j hj e=>Owni.neB hE.cols hb (by decide) j hj e)⟩
theorem xo.zpB {x y:SLC} {c:Cat} {K:SLC->WP} (h:xo w x y c) (hl:0<c.1.length) (hK:∀ z:SLC,Sli x6 w z.1 z.2.1 (c.1.getD 0 yb).2.1->K z w):
  (zc (0<=(0:Int)/\(0:Int)<((x.2.1:Nat):Int))<|zi x.1 fun(p15:Addr)=>ldW .slc ((p15.add (Int.toNat (0:Int)*5)).add 1) K) w:=by
 obtain⟨⟨raws,hT⟩,_⟩:=h;have h1:=hT.len;have hxl:=hT.sl.len;refine zcC (E:=yu) 1 (fun e:Raw=>e.2.1) yl hT.sl (fun _=>rfl) rfl (by omega) (by omega) ?_;exact hK _ (hT.at_ 0 hl).cols
end
theorem zhx (w:World):Calls prog 6 #[] w (Ret fun v w'=>v=.bool true/\Ext w w'):=by
 apply zoV;unfold S6;refine zb (zh8 w) ?_;rintro _ w1 ⟨rfl,he1⟩;refine⟨_,rfl,zd (by rfl) ?_⟩;refine zb (zdc w1) ?_;rintro _ w2 ⟨db,b,rfl,F,st2⟩;have st2:=St.pre he1 st2;have sp2:=st2.sp;refine⟨(some ⟨db,0,none⟩,some ⟨b,0,none⟩,()),rfl,?_⟩;refine zb (qL w2 0 7) ?_;rintro _ w3 ⟨⟨x3,y3,rfl,hc3⟩,he3⟩;refine⟨yN x3 y3,rfl,?_⟩;refine zb (zaW hc3.cat) ?_;rintro _ w4 ⟨rfl,he4⟩;have eB:uP (jf 0 7)=(mkB qo,0):=by unfold uP;rw[if_pos (zeB 0 7),zde]
 rw[eB];refine⟨(mkB qo,0,()),rfl,?_⟩;have hsz:(mkB qo).size=27:=by rw[xf];rfl
 dsimp only;rw[hsz];refine zd (by rfl) ?_;have he24:=he3.trans he4;refine zb (kA (s:=mkB qo) (by omega)) ?_;rintro _ w5 ⟨⟨x5,y5,rfl,hc5⟩,he5⟩;rw[yW,zjP]at hc5 ⊢;refine⟨(yN x5 y5,0,()),rfl,?_⟩;refine yn (vs:=zN x5 y5) (by rfl) (yD _ _) (fun r6 w6 hb6 he6 hr6=>?_) (by rfl);refine zK (by decide) ?_;have e7:B (mkB qo++ByteArray.mk #[120])=qo++[120]:=by rw[zgs,yW];rfl
 refine zb (kA (s:=mkB qo++ByteArray.mk #[120]) (by rw[yj,e7];decide)) ?_;rintro _ w7 ⟨⟨x7,y7,rfl,hc7⟩,he7⟩;rw[e7,zjQ];refine⟨(yN x7 y7,240,()),rfl,?_⟩;refine yn (vs:=zN x7 y7) (by rfl) (yD _ _) (fun r8 w8 hb8 he8 hr8=>?_) (by rfl);rw[show wrap .i64 (((27:Nat):Int)-1)=26 from by decide];refine zK ⟨by decide,by decide⟩ ?_;have e9:B ((mkB qo).extract 0 (Int.toNat 26)++ByteArray.mk #[2])=qo.take 26++[2]:=by decide+kernel
 have e9s:((mkB qo).extract 0 (Int.toNat 26)).size=26:=by decide+kernel
 rw[e9s];refine zK (by decide) ?_;refine zb (kA (s:=(mkB qo).extract 0 (Int.toNat 26)++ByteArray.mk #[2]) (by rw[yj,e9];decide)) ?_;rintro _ w9 ⟨⟨x9,y9,rfl,hc9⟩,he9⟩;rw[e9,zkY];refine⟨(yN x9 y9,240,()),rfl,?_⟩;refine yn (vs:=zN x9 y9) (by rfl) (yD _ _) (fun r10 w10 hb10 he10 hr10=>?_) (by rfl);have he210:=(((((he24.trans he5).trans he6).trans he7).trans he8).trans he9).trans he10
 -- a table twice
 refine zb (qL w10 0 0) ?_;rintro _ w11 ⟨⟨x11,y11,rfl,hc11⟩,he11⟩;refine⟨yN x11 y11,rfl,?_⟩;refine yn (vs:=zN x11 y11) (by rfl) (yD _ _) (fun r12 w12 hb12 he12 hr12=>?_) (by rfl);refine zM fun w13 he13 hz13 hh13=>?_;have he1113:=he12.trans he13;have hs11:=he11.size;have hs1113:=he1113.size;obtain⟨⟨raws,hT⟩,hS⟩:=hc11.ext he1113;obtain⟨raw,rfl⟩:∃ raw,raws=[raw]:=List.length_eq_one_iff.1 hT.len;have hx1:1=x11.2.1:=hT.row.len;have hb13:=hb12.ext he13;refine zF x11 hb13 (by rfl) (zF x11 hb13 (by rfl) ?_);refine vE (E:=yu) zaw yl hT.row.sl (fun _=>rfl) rfl (by omega) (by omega) ?_;show zh (.cells (yu.f raw).toArray 44) _ w13;refine zr fun r17 w14 hb17 he14 hr17 hz17=>?_;have hb17:Blk w14 r17 (yu.flat [raw]) 44:=hb17;refine xy (yd (hb13.ext he14) rfl) ?_;have hT14:=hT.ext he14;have hs14:=he14.size;refine xc (E:=yu) zdF hT14.row (by omega) (Sli.xC (E:=yu) (xs:=[raw]) hb17 rfl (by omega)) (by omega) (by omega) ?_;intro A15 c15 w15 ho15 hg15 _;have hrow:=hT14.row.row;have hb15:=(hb13.ext he14).grown hg15.grown (fun e=>Owni.neB hT14.row (hb13.ext he14) (by decide) _ e.symm rfl);refine stE (o:=0) hb15 rfl (by show 0<2;omega) ?_;intro w16 hb16 o16;have hb16:Blk w16 r12 (zN (A15,x11.2.1+1,c15) y11) 25:=hb16;have hE0:xm w14 w10.heap.size raw e00:=hT14.at_ 0 (by show 0<1;omega);have hO15:yg w15 w10.heap.size (A15,x11.2.1+1,c15) y11 ([e00,e00],[(strs,0)]):=by
  have hE15:=hE0.grown hT14.row hg15.grown;refine⟨⟨_,yS.snoc (w:=w14) hT14 ho15 (fun i hi=>?_) hE15⟩,(hS.ext he14).grown hg15.grown (fun j hj=>hT14.row.ne (hS.ext he14) (by decide) j hj)⟩;have hi:i<1:=hi;obtain rfl:i=0:=by omega
  exact hE15
 have hO16:=yg.zpA hO15 hb15 o16;have h210:=he210.size;have hx15:Ext w2 w15:=((he210.trans he11).trans (he1113.trans he14)).grown hg15.grown (fun j hj=>by have:=hrow j hj;omega);have hx16:Ext w2 w16:=Only.ext hx15 o16 (fun j hj=>by have:j=r12:=hj;omega);have hE1016:Only (fun k=>w10.heap.size<=k) w10 w16:=by
  refine Only.trans (Only.trans (Only.zB (he11.trans (he1113.trans he14))) (Only.z8 (F:=fun k=>w10.heap.size<=k) hg15.grown (fun j hj=>.inl (hrow j hj))) (fun j hj=>.inl hj)) o16 (fun j hj=>.inl ?_);have:j=r12:=hj;omega
 -- what was read stays
 have he610:=((he7.trans he8).trans he9).trans he10;have hs610:=he610.size;have hb610:=hb6.ext he610;have hb616:=hb610.only hE1016 (fun e=>by have:=hb610.lt;omega);have hc516:yg w16 w4.heap.size x5 y5 (jf 0 1):=by
  have h1:=hc5.ext (he6.trans he610);have hx:Ext w10 w16:=Only.ext (Ext.refl _) hE1016 (fun j hj=>hj);exact h1.ext hx
 -- rows of 0
 refine zb (qL w16 9 0) ?_;rintro _ w19 ⟨⟨x19,y19,rfl,hc19⟩,he19⟩;refine⟨yN x19 y19,rfl,?_⟩;refine yn (vs:=zN x19 y19) (by rfl) (yD _ _) (fun r20 w20 hb20 he20 hr20=>?_) (by rfl);obtain⟨⟨raws9,hT9⟩,hS9⟩:=hc19.ext he20;obtain⟨raw9,rfl⟩:∃ raw,raws9=[raw]:=List.length_eq_one_iff.1 hT9.len;have hx9:1=x19.2.1:=hT9.row.len;obtain⟨g9,hA9⟩:=hT9.row.some_ (by omega);refine zF x19 hb20 (by rfl) (zK ⟨by omega,by omega⟩ ?_);refine⟨_,hA9,?_⟩;have hst:∀ K:WP,(∀ w',Owni yu 44 w' w16.heap.size x19.1 x19.2.1 x19.2.2 [(raw9.1,raw9.2.1,raw9.2.2.1,raw9.2.2.2.1,(0:Int))]->Only (fun q=>orow x19.1=some q) w20 w'->K w')->stW (((adr x19.1).add (0*5)).add 4) (.int .i64 0) K w20:=fun K hK=>
  Owni.stF (x':=(raw9.1,raw9.2.1,raw9.2.2.1,raw9.2.2.2.1,(0:Int))) hT9.row (k:=5) rfl (i:=0) (by rfl) (by omega) (by rfl) hK
 have ea9:adr x19.1=(aD g9):=by rw[hA9];rfl
 rw[ea9]at hst;refine hst _ ?_;intro w21 s3 s4;have hs16:=hx16.size;have hs19:=he19.size;have hs20:=he20.size;have hrow9:=hT9.row.row;have hx20:=(hx16.trans he19).trans he20;have hx21:Ext w2 w21:=Only.ext hx20 s4 (fun j hj=>by have:=hrow9 j hj;omega);have h1621:Ext w16 w21:=Only.ext (he19.trans he20) s4 (fun j hj=>hrow9 j hj);have hb2021:Blk w21 r20 (zN x19 y19) 25:=hb20.only s4 (fun e=>Owni.neB hT9.row hb20 (by decide) _ e rfl);have hO21:yg w21 w16.heap.size x19 y19 ([e90],[(strs,0)]):=by
  refine⟨⟨_,s3,rfl,fun i hi=>?_⟩,hS9.only s4 (fun j hj e=>hT9.row.ne hS9 (by decide) j e hj)⟩;have hi:i<1:=hi;obtain rfl:i=0:=by omega
  have hE:xm w20 w16.heap.size raw9 ((jf 9 0).1.getD 0 yb):=hT9.at_ 0 (by show 0<1;omega);refine⟨hE.name,?_,hE.cols.only s4 (fun j hj e=>hT9.row.ne hE.cols (by decide) j e hj)⟩;have hr:=hE.rest;show(raw9.2.2.1,raw9.2.2.2.1,(0:Int))=(9,5,0);rw[hr];rfl
 have hs1621:=h1621.size;have hs24:=he24.size;have hP21:Safe F w21 fun w=>((Blk w r6 (zN x5 y5) 25/\yg w 0 x5 y5 (jf 0 1))/\(Blk w r12 (zN (A15,x11.2.1+1,c15) y11) 25/\yg w 0 (A15,x11.2.1+1,c15) y11 ([e00,e00],[(strs,0)])))/\(Blk w r20 (zN x19 y19) 25/\yg w 0 x19 y19 ([e90],[(strs,0)])):=
  (((St.box sp2 (hb616.ext h1621) (by have:=he5.size;omega)).and (St.own sp2 ((hc516.ext h1621).lower hs24))).and ((St.box sp2 (hb16.ext h1621) (by omega)).and (St.own sp2 ((hO16.ext h1621).lower h210)))).and ((St.box sp2 hb2021 (by omega)).and (St.own sp2 (hO21.lower hs16)))
 have st21:St w w21 b db S0 F:=st2.ext' hx21
 -- finds
 refine zZ (ls:=xW) (yN (A15,x11.2.1+1,c15) y11) hP21.now.1.2.1 (by rfl) ?_;refine zb (zbL hP21.now.1.2.2.cat strt) ?_;rintro _ w22 ⟨rfl,he22⟩;rw[zjR];refine⟨(0,0,()),rfl,?_⟩;have hP22:=hP21.ext he22;refine zZ (ls:=xW) (yN (A15,x11.2.1+1,c15) y11) hP22.now.1.2.1 (by rfl) ?_;refine zb (zbL hP22.now.1.2.2.cat (ByteArray.mk #[117])) ?_;rintro _ w23 ⟨rfl,he23⟩;rw[zjS];refine⟨(0,210,()),rfl,?_⟩;have hP23:=hP22.ext he23;have st23:=(st21.ext' he22).ext' he23
 -- a leaf
 have hl0:S0.now.length=S0.N:=uS.good.ok.now;refine zb (ziJ (p:=zf2) (R:=[]) st23.sp uS zai (by rw[zeA];simp) (by rw[uT,zcK];omega) rfl (by decide) (by decide)) ?_;rintro _ w24 ⟨S1,n,rfl,hP1,hG1,hst24⟩;obtain⟨F1,st24,keep24⟩:=st23.step hst24;have hP24:=keep24 _ hP23;refine⟨((n:Int),0,()),rfl,?_⟩;have hn0:n≠0:=by have:=hP1.two;omega
 have hm1:=hP1.mk_ hl0;have hu1:=hG1.good.well.root n (mem_singleton.2 rfl);have hdN:=hG1.good.dims.n;have hn32:n<4294967296:=by have:=hG1.good.well.lt hu1;omega
 have hget:S1.get n=(zf2,0):=by rw[(hG1.good.get hu1).1,hP1.page]
 refine zb (zib st24.sp hn0 hn32 hget zoP rfl (by unfold zby;omega)) ?_;rintro _ w25 ⟨rfl,he25⟩;refine⟨(yN (none,0,0) (none,0,0),10,()),rfl,?_⟩;refine yn (vs:=zN (none,0,0) (none,0,0)) (by rfl) (yD _ _) (fun r29 w26 hb26 he26 hr26=>?_) (by rfl);refine zb (zfT w26 _) ?_;rintro _ w27 ⟨rfl,he27⟩;refine⟨(yN (none,0,0) (none,0,0),0,()),rfl,?_⟩;refine yn (vs:=zN (none,0,0) (none,0,0)) (by rfl) (yD _ _) (fun r31 w28 hb28 he28 hr28=>?_) (by rfl);have he2428:=((he25.trans he26).trans he27).trans he28;have st28:=st24.ext' he2428;have hs2427:=((he25.trans he26).trans he27).size;have hP28:=(hP24.ext he2428).and (St.box st24.sp hb28 (by omega))
 -- a page
 have hf1:=hm1.free;rw[zcK]at hf1;have hl1:([n]:List Nat).length=1:=rfl;have hr1:S1.r0=238:=hm1.r0.trans zai;have hsup1:S1.sup.pages.length=3:=by rw[hm1.sup];exact uT
 have hpen1:=hm1.pen;rw[zeA]at hpen1;have hp0:([]:List (Int×ByteArray)).length=0:=rfl;refine zb (ziJ (p:=zpy) (R:=[n]) st28.sp hG1 hr1 (by omega) (by omega) rfl (by decide) (by decide)) ?_;rintro _ w29 ⟨S2,p,rfl,hP2,hG2,hst29⟩;obtain⟨F2,st29,keep29⟩:=st28.step hst29;have hP29:=keep29 _ hP28;refine⟨((p:Int),0,()),rfl,?_⟩;refine zb (ziz st29.sp) ?_;rintro _ w30 ⟨rfl,he30⟩;refine⟨_,rfl,?_⟩;have st30:=st29.ext' he30;have hP30:=hP29.ext he30;have hl1':S1.now.length=S1.N:=hG1.good.ok.now;have hm2:=hP2.mk_ hl1';have hf2:=hm2.free;have hlp:([p]:List Nat).length=1:=rfl;have hpn:p≠n:=fun e=>by
  have h1:=(zP.1 hP2.free).1;rw[e]at h1;have:=(zI.1 hu1).2.2;omega
 have hp2:=hP2.two;have hp0':p≠0:=by omega
 have hpN:p<4294967296:=by have:=hP2.lt;omega
 refine zb (qL w30 p 0) ?_;rintro _ w31 ⟨⟨x31,y31,rfl,hc31⟩,he31⟩;refine⟨yN x31 y31,rfl,?_⟩;have st31:=st30.ext' he31;have hP31:=hP30.ext he31;have hro:z7 (jf p 0)=[p]:=by
  unfold z7 kvC zL spT spS jf;simp[hp0',List.range,List.range.loop]
 have hlen:=ziI p 0;have hr2:S2.r0=238:=hm2.r0.trans hr1;have hsup2:S2.sup.pages.length=3:=by rw[hm2.sup];exact hsup1
 have hpen2:=hm2.pen;have hone2:S2.now.getD p 0=1:=by rw[hm2.now,if_pos (mem_singleton.2 rfl)]
 refine zb (uQ (x:=x31) (y:=y31) (c:=jf p 0) (R:=[n]) (H:=[]) (M:=none) st31.sp ((St.own st30.sp hc31).mono fun _ h=>h.cat) (zeB p 0) (by rw[hro];exact hG2) (by omega) (by omega) (by rw[hr2,zjO,hlen];omega) (by rw[hsup2,hr2,hlen,show nparts 238 27=1 from by decide];omega) (fun v hv=>by rw[hro,mem_singleton]at hv;rw[hv,hone2];omega)) ?_;rintro _ w32 (⟨hne,_⟩|⟨_,S3,r,ls,rfl,hP3,hst32⟩)
 ·exact absurd hne (by unfold jf vz;simp)
 obtain⟨F3,st32,keep32⟩:=st31.step hst32;have hP32:=keep32 _ hP31;refine⟨((r:Int),0,()),rfl,?_⟩;have hur:=hP3.great.good.well.root r mem_cons_self;refine zb (zcw st32.sp hP3.great.good hP3.pg hur) ?_;rintro _ w33 ⟨⟨x33,y33,rfl,hc33⟩,he33⟩;refine⟨(yN x33 y33,0,()),rfl,?_⟩;refine yn (vs:=zN x33 y33) (by rfl) (yD _ _) (fun r37 w34 hb34 he34 hr34=>?_) (by rfl);have he3234:=he33.trans he34;have st34:=st32.ext' he3234;have hs33:=he33.size;have hP34:=(hP32.ext he3234).and ((St.box st32.sp hb34 (by omega)).and (St.own st32.sp (hc33.ext he34)))
 -- it is dropped
 refine zb (ziA (R:=[n]) (H:=[]) (M:=none) st34.sp hP3.great) ?_;rintro _ w35 ⟨rfl,c',hG4,hst35,_,hle⟩;obtain⟨F4,st35,keep35⟩:=st34.step hst35;have hP35:=keep35 _ hP34;refine⟨_,rfl,?_⟩;have hm3:=hP3.made;have hpg1:z6 S1.page n=[]:=by unfold z6;rw[hP1.page];rfl
 have hu2:zE S2.sup.pages S2.now n=true:=hG2.good.well.root n (by simp);have hpg4:z6 S3.page n=[]:=by
  have e1:S3.page n=S1.page n:=(hm3.used hG2.good hu2).1.trans (hP2.other n hpn.symm (by have:=hG1.good.well.lt hu1;exact this));have:=hpg1;unfold z6 at this ⊢;rw[e1];exact this
 have hs4:({ S3 with now:=c' }:Spa).sup=S1.sup:=hm3.sup.trans hm2.sup;have hpl:p∉S3.sup.pages:=by
  have e:S3.sup=S1.sup:=hs4;rw[e];exact hP2.pgs
 have hnow4:c'.getD p 0=0:=by
  have:=zdM (S:={ S3 with now:=c' }) hG4.good (fun q hq=>by rw[mem_singleton.1 hq];exact hpg4) (n:=p) hp2 (by exact hpl);rw[List.count_eq_zero.2 (by simpa using hpn)]at this;exact this
 have hfree4:({ S3 with now:=c' }:Spa).zQ=S1.zQ:=
  zkX (R:=[n]) hG1 hG4 (fun q hq=>by rw[mem_singleton.1 hq];exact hpg1) (fun q hq=>by rw[mem_singleton.1 hq];exact hpg4) hs4 (hm3.held.trans hm2.held) (hm3.mark.trans hm2.mark)
 -- a copy
 refine zZ (ls:=xW) (yN (A15,x11.2.1+1,c15) y11) hP35.now.1.1.1.2.1 (by rfl) ?_;have hlt2:zjM ([e00,e00],[(strs,0)]):=⟨by show 2<=1000;omega,by show 1<=1000;omega,fun e he=>by
  simp only [mem_cons,not_mem_nil,or_false]at he
  rcases he with rfl|rfl<;>(show 2<=1000;omega)⟩
 refine zb (zfS hP35.now.1.1.1.2.2.cat hlt2) ?_;rintro _ w36 ⟨⟨x36,y36,rfl,hc36⟩,he36⟩;refine⟨yN x36 y36,rfl,?_⟩;refine yn (vs:=zN x36 y36) (by rfl) (yD _ _) (fun r41 w37 hb37 he37 hr37=>?_) (by rfl);obtain⟨⟨rawsC,hTC⟩,hSC⟩:=hc36.ext he37;have hxC:2=x36.2.1:=by have h1:=hTC.row.len;have h2:rawsC.length=2:=hTC.len;omega
 have he3537:=he36.trans he37;refine zF x36 hb37 (by rfl) (zd (beq_eq_false_iff_ne.2 (by omega)) ?_);have hEC:xm w37 w35.heap.size (rawsC.getD 0 yl) e00:=hTC.at_ 0 (by show 0<2;omega);have hcl:2=(rawsC.getD 0 yl).2.1.2.1:=hEC.cols.len;have idxC:∀ {K:SLC->WP},K (rawsC.getD 0 yl).2.1 w37->(zc (0<=(0:Int)/\(0:Int)<((x36.2.1:Nat):Int))<|zi x36.1 fun(p15:Addr)=>ldW .slc ((p15.add (Int.toNat (0:Int)*5)).add 1) K) w37:=fun hK=>
  zcC (E:=yu) 1 (fun e:Raw=>e.2.1) yl hTC.row.sl (fun _=>rfl) rfl (by omega) (by omega) hK
 refine zF x36 hb37 (by rfl) (idxC (zd (beq_eq_false_iff_ne.2 (by omega)) ?_));have hP37:=hP35.ext he3537;have hx33:1=x33.2.1:=by
  have h1:=hP37.now.2.2.cat;obtain⟨⟨raws,h2⟩,_⟩:=h1;have h3:=h2.sl.len;have h4:raws.length=1:=h2.len;omega
 refine zF x33 hP37.now.2.1 (by rfl) (zd (beq_eq_false_iff_ne.2 (by omega)) ?_);refine zF x36 hb37 (by rfl) (idxC (zK ⟨by omega,by omega⟩ ?_));obtain⟨gC,hgC⟩:=hEC.cols.some_ (by omega);refine⟨_,hgC,?_⟩;have hst:∀ K:WP,(∀ w',Only (fun q=>orow (rawsC.getD 0 yl).2.1.1=some q) w37 w'->K w')->stW (((adr (rawsC.getD 0 yl).2.1.1).add (0*3)).add 0) (.string (ByteArray.mk #[122])) K w37:=fun K hK=>
  Owni.stF (x':=((ByteArray.mk #[122],pk.2):Col)) hEC.cols (k:=3) rfl (i:=0) (by rfl) (by omega) (by rfl) (fun w' ho' o'=>hK w' o')
 have eaC:adr (rawsC.getD 0 yl).2.1.1=(aD gC):=by rw[hgC];rfl
 rw[eaC,add_zero]at hst;refine hst _ ?_;intro w38 s3;have hgl:w35.heap.size<=gC:=hEC.cols.row gC (by rw[hgC];rfl);have o38:Only (fun k=>k=gC) w37 w38:=s3.mono fun k hk=>by
  rw[hgC]at hk;have hk:some gC=some k:=hk;injection hk with hk
  exact hk.symm
 have hP38:=(hP35.box he3537 hgl).fill o38;have hn4:¬F4 gC:=fun hf=>by have:=st35.sp.lt _ hf;omega
 have st37:=st35.ext' he3537;have hlow:w.heap.size<=gC:=Nat.le_trans st35.ext.size hgl;have st38:St w w38 b db { S3 with now:=c' } F4:=⟨st37.sp.only o38 (fun k hk e=>hn4 (by have:k=gC:=e;rw[<- this];exact hk)),st37.low,Only.ext st37.ext o38 (fun j hj=>by have:j=gC:=hj;omega)⟩;have hP38:Safe F4 w38 _:=fun w2 o=>hP38 w2 (o.mono fun k hk=>.inl hk)
 -- the answer
 refine yk (fun q w'=>q=(true,())/\Ext w w') ?_ (fun J51 hJ51=>?_)
 ·rintro _ w39 ⟨rfl,he⟩;exact⟨rfl,he⟩
 refine zM fun w39 he39 hz39 hh39=>?_;refine yk (fun q w'=>q=(true,())/\Ext w38 w') ?_ (fun J53 hJ53=>?_);rotate_left
 ·refine zf (by rfl) (zf (by rw[qx,yW];rfl) (zf (by rfl) ?_));have hP39:=hP38.ext he39;refine zZ (ls:=xW) (yN x5 y5) hP39.now.1.1.1.1.1 (by rfl) ?_;refine zb (qL w39 0 1) ?_;rintro _ w40 ⟨⟨x40,y40,rfl,hc40⟩,he40⟩;refine⟨yN x40 y40,rfl,?_⟩;have hP40:=hP39.ext he40;refine xy (zaN hP40.now.1.1.1.1.1) ?_;refine zb (zeu hP40.now.1.1.1.1.2.cat hc40.cat) ?_;rintro _ w41 ⟨⟨v,rfl,hv⟩,he41⟩;exact⟨_,rfl,zf (by rw[hv.2 rfl]) (hJ53 _ _ ⟨rfl,(he39.trans he40).trans he41⟩)⟩
 rintro _ w40 ⟨rfl,he40⟩;have hP40:=hP38.ext he40;refine yk (fun q w'=>q=(true,())/\Ext w38 w') ?_ (fun J58 hJ58=>?_);rotate_left
 ·refine zf (by rfl) (zf (by rfl) (zf (by rfl) ?_));refine zZ (ls:=xW) (yN (A15,x11.2.1+1,c15) y11) hP40.now.1.1.1.2.1 (by rfl) ?_;refine zb (jX hP40.now.1.1.1.2.2.cat) ?_;rintro _ w41 ⟨rfl,he41⟩;exact⟨_,rfl,zf (by rw[zkZ];rfl) (hJ58 _ _ ⟨rfl,he40.trans he41⟩)⟩
 rintro _ w41 ⟨rfl,he41⟩;have hP41:=hP38.ext he41;refine yk (fun q w'=>q=(true,())/\Ext w38 w') ?_ (fun J62 hJ62=>?_);rotate_left
 ·refine zf (by rfl) ?_;refine zZ (ls:=xW) (yN x19 y19) hP41.now.1.1.2.1 (by rfl) ?_;refine zb (jX hP41.now.1.1.2.2.cat) ?_;rintro _ w42 ⟨rfl,he42⟩;exact⟨_,rfl,zf (by rw[zmX];rfl) (zf (by rfl) (zf (by rfl) (hJ62 _ _ ⟨rfl,he41.trans he42⟩)))⟩
 rintro _ w42 ⟨rfl,he42⟩;have hP42:=hP38.ext he42;refine zhv (true,()) (fun J hJ=>zf (by rfl) (zf (by rfl) (zf (by rfl) (zf (by rfl) hJ)))) ?_;refine zhv (true,()) (fun J hJ=>zf (by rfl) (zF (none,0,0) hP42.now.1.2 (by rfl) (zf (by rfl) (zf (by rfl) (zf (by rfl) hJ))))) ?_;refine zhv (true,()) (fun J hJ=>zf (by rfl) (zF x33 hP42.now.2.1 (by rfl) ?_)) ?_
 ·refine xo.zpz (k:=p) hP42.now.2.2.cat rfl (by show 0<1;omega) ?_;exact zf (beq_self_eq_true _) (zf (by rfl) hJ)
 have st42:=st38.ext' he42;refine yk (fun q w'=>q=(true,())/\Ext w42 w') ?_ (fun J76 hJ76=>?_);rotate_left
 ·refine zf (by rfl) ?_;refine zb (zmG st42.sp hpN) ?_;rintro _ w43 ⟨rfl,hw43⟩;subst hw43;refine⟨_,rfl,zf (beq_iff_eq.2 (by show((c'.getD p 0:Nat):Int)=0;omega)) ?_⟩;refine zb (ziz st42.sp) ?_;rintro _ w44 ⟨rfl,he44⟩;refine⟨_,rfl,zf (beq_iff_eq.2 ?_) (hJ76 _ _ ⟨rfl,he44⟩)⟩;rw[hfree4,wrap_i64 (by omega) (by omega)];omega
 rintro _ w43 ⟨rfl,he43⟩;have st43:=st42.ext' he43;have hP43:=hP42.ext he43;have hsh:({ S3 with now:=c' }:Spa).share p=({ S3 with now:=c' },8):=by
  have hask:({ S3 with now:=c' }:Spa).asked p=true:=kM.2 ⟨hp2,by have h1:=hP2.lt;have h2:=hm3.N;have h3:=hm2.N;show p<S3.N;omega,hpl⟩;have hat:atE c' p=8:=by
   unfold atE;have h1:=hG4.good.ok.now;have h1:c'.length=S3.N:=h1;rw[if_neg (by have h1':=hP2.lt;have h2:=hm3.N;have h3:=hm2.N;omega),if_pos hnow4]
  unfold Spa.share;rw[if_neg (by rw[hask];simp)];show(({ S3 with now:=vw c' p }:Spa),kX c' p)=_;have ha:kX c' p=8:=by unfold kX;rw[hat];rfl
  unfold vw;rw[ha,if_neg (by decide)]
 refine yk (fun q w'=>q=(true,())/\∃ F5,St w w' b db { S3 with now:=c' } F5) ?_ (fun J80 hJ80=>?_);rotate_left
 ·refine zf (by rfl) ?_;refine zF (A15,x11.2.1+1,c15) hP43.now.1.1.1.2.1 (by rfl) ?_;refine xo.zpB hP43.now.1.1.1.2.2.cat (by show 0<2;omega) fun z hz=>?_;have hzl:2=z.2.1:=hz.len;refine zoU (E:=x6) (fun e:Col=>e.1) pk hz (fun _=>rfl) rfl (by omega) (by omega) ?_;refine zf (by rw[qx];exact decide_eq_true rfl) ?_;refine zb (qL w43 p 0) ?_;rintro _ w44 ⟨⟨x44,y44,rfl,hc44⟩,he44⟩;refine⟨yN x44 y44,rfl,?_⟩;have st44:=st43.ext' he44;refine zb (zhw (c:=jf p 0) (k:=p) (ks:=[]) st44.sp ((St.own st43.sp hc44).mono fun _ h=>h.cat) (by show 1<=1000;omega) (by show 1<=1000;omega) hro hpN (by rw[hsh];show(8:Int)≠0;decide)) ?_;rintro _ w45 ⟨rfl,hst45⟩;rw[hsh]at hst45 ⊢;obtain⟨F5,st45,_⟩:=st44.step hst45;exact⟨_,rfl,zf (by rfl) (hJ80 _ _ ⟨rfl,F5,st45⟩)⟩
 rintro _ w44 ⟨rfl,F5,st44⟩;refine zf (by rfl) ?_;refine zb (qL w44 0 0) ?_;rintro _ w45 ⟨⟨x45,y45,rfl,hc45⟩,he45⟩;refine⟨yN x45 y45,rfl,?_⟩;have st45:=st44.ext' he45;have hro0:z7 (jf 0 0)=[]:=by rfl
 refine zb (zfb (c:=jf 0 0) (R:=[n]) (H:=[]) (M:=none) st45.sp ((St.own st44.sp hc45).mono fun _ h=>h.cat) (by show 1<=1000;omega) (by show 1<=1000;omega) hG4 (fun v hv=>by rw[hro0]at hv;cases hv) (fun v hv=>by rw[hro0]at hv;cases hv)) ?_;rintro _ w46 ⟨rfl,c'',_,hst46,_⟩;obtain⟨F6,st46,_⟩:=st45.step hst46;exact⟨_,rfl,hJ51 _ _ ⟨rfl,st46.ext⟩⟩
end V
end Go.Proofs.YtplgodmmmppmeaaGreat
