/- Texts of mine, merged (wip/tool/mergep.py): KCat5, KCat6, KCat7, KCat8, KRef24, KBlob2, KBlob3, BlobL, KPut1, KPut2, KPut3, KPut4, KPut5, KGet1, KGet2, KGet3, KGet4, KGet5, KCopy, HIns, GoodE, KSt, KShare, KGet6, CatN, KSnaps, KSnaps2, KSnaps3, KCell, KSchema3, KRChk, L, L2, L3, L4, LStay, LNone, LApart, LNm. -/
import Derived.Test.YtpagephahcnijaaGreatM5
import Derived.Test.YtpagephahcnijaaGreatM4
import Derived.Lib.AppendZerosOnto
import Derived.Lib.Overlaps
import Derived.Laws.Externs
import Derived.Test.YtpagephahcnijaaGreatM3
import Derived.Test.YtpagephahcnijaaGreatM1
import Derived.Test.YtpagephahcnijaaGreatChecked
open Go.IntKind (wrap)
open Go.Proofs.Tryz (prog)
open List (mem_cons_self mem_cons_of_mem mem_cons length_cons map_map mem_append mem_append_left drop_drop mem_range mem_of_getElem? getElem_mem map_cons mem_map append_assoc nodup_cons foldl_cons append_nil length_map length_set eq_nil_of_length_eq_zero range_succ map_congr_left length_append drop_of_length_le take_of_length_le getD_eq_getElem?_getD mem_singleton length_take length_drop take_succ_eq_append_getElem take_add_one not_mem_nil map_append take_left' length_replicate drop_left' flatMap_cons length_range getElem_range flatMap_append length_singleton)
set_option linter.unusedVariables false
set_option linter.unusedSimpArgs false
namespace Go.Proofs.YtpagephahcnijaaGreat
/- Contracts of the package catalog:Read. -/
namespace V
open Go Go.Proofs Go.RowKit Crc
variable {w w':World} {r:Nat} {st:Option (List UInt8)}
theorem zhk:qq prog 27 42 (.agg #[.string ByteArray.empty,.slice none 0 0,.int .u32 0,.int .u64 0,.int .i64 0]) 5 64:=⟨by kernel_rfl,by kernel_rfl,by kernel_rfl⟩
theorem qS:qq prog 28 64 (.agg #[.string ByteArray.empty,.int .u32 0]) 2 24:=⟨by kernel_rfl,by kernel_rfl,by kernel_rfl⟩
structure xU (w:World) (B0:Nat) (r:Raw) (e:Ent):Prop where
 name:r.1=e.1
 rest:r.2.2=e.2.2
 cols:Owni qw 95 w B0 r.2.1.1 r.2.1.2.1 r.2.1.2.2 e.2.1
structure yP (w:World) (B0:Nat) (x:SLC) (raws:List Raw) (es:List Ent):Prop where
 row:Owni xg 42 w B0 x.1 x.2.1 x.2.2 raws
 len:raws.length=es.length
 at_:∀ i,i<es.length->xU w B0 (raws.getD i xf) (es.getD i yu)
def z8 (w:World) (B0:Nat) (x y:SLC) (c:Cat):Prop:=(∃ raws,yP w B0 x raws c.1)/\Owni zA 64 w B0 y.1 y.2.1 y.2.2 c.2
theorem z8.cat {B0:Nat} {x y:SLC} {c:Cat} (h:z8 w B0 x y c):yH w x y c:=by
 obtain⟨⟨raws,h1⟩,h2⟩:=h;exact⟨⟨raws,h1.row.sl,h1.len,fun i hi=>⟨(h1.at_ i hi).name,(h1.at_ i hi).rest,(h1.at_ i hi).cols.sl,(h1.at_ i hi).cols.le.1⟩⟩,h2.sl,h1.row.le.1,h2.le.1⟩
theorem xU.only {F:Nat->Prop} {B0:Nat} {r:Raw} {e:Ent} (h:xU w B0 r e) (o:Only F w w') (hF:∀ k,F k->k<B0):xU w' B0 r e:=
 ⟨h.name,h.rest,h.cols.only o (fun j hj hf=>by have:=h.cols.row j hj;have:=hF j hf;omega)⟩
theorem xU.ext {B0:Nat} {r:Raw} {e:Ent} (h:xU w B0 r e) (he:Ext w w'):xU w' B0 r e:=⟨h.name,h.rest,h.cols.ext he⟩
theorem xU.lower {B0 B1:Nat} {r:Raw} {e:Ent} (h:xU w B0 r e) (hB:B1<=B0):xU w B1 r e:=⟨h.name,h.rest,h.cols.lower hB⟩
theorem yP.only {F:Nat->Prop} {B0:Nat} {x:SLC} {raws:List Raw} {es:List Ent} (h:yP w B0 x raws es) (o:Only F w w') (hF:∀ k,F k->k<B0):yP w' B0 x raws es:=
 ⟨h.row.only o (fun j hj hf=>by have:=h.row.row j hj;have:=hF j hf;omega),h.len,fun i hi=>(h.at_ i hi).only o hF⟩
theorem yP.ext {B0:Nat} {x:SLC} {raws:List Raw} {es:List Ent} (h:yP w B0 x raws es) (he:Ext w w'):yP w' B0 x raws es:=⟨h.row.ext he,h.len,fun i hi=>(h.at_ i hi).ext he⟩
theorem yP.lower {B0 B1:Nat} {x:SLC} {raws:List Raw} {es:List Ent} (h:yP w B0 x raws es) (hB:B1<=B0):yP w B1 x raws es:=⟨h.row.lower hB,h.len,fun i hi=>(h.at_ i hi).lower hB⟩
theorem z8.ext {B0:Nat} {x y:SLC} {c:Cat} (h:z8 w B0 x y c) (he:Ext w w'):z8 w' B0 x y c:=by
 obtain⟨⟨raws,h1⟩,h2⟩:=h;exact⟨⟨raws,h1.ext he⟩,h2.ext he⟩
theorem z8.only {F:Nat->Prop} {B0:Nat} {x y:SLC} {c:Cat} (h:z8 w B0 x y c) (o:Only F w w') (hF:∀ k,F k->k<B0):z8 w' B0 x y c:=by
 obtain⟨⟨raws,h1⟩,h2⟩:=h;exact⟨⟨raws,h1.only o hF⟩,h2.only o (fun j hj hf=>by have:=h2.row j hj;have:=hF j hf;omega)⟩
theorem z8.lower {B0 B1:Nat} {x y:SLC} {c:Cat} (h:z8 w B0 x y c) (hB:B1<=B0):z8 w B1 x y c:=by
 obtain⟨⟨raws,h1⟩,h2⟩:=h;exact⟨⟨raws,h1.lower hB⟩,h2.lower hB⟩
theorem uf (w:World) (B0:Nat):z8 w B0 (none,0,0) (none,0,0) zaz:=⟨⟨[],Owni.nil _ _ _,rfl,fun i hi=>by cases hi⟩,Owni.nil _ _ _⟩
theorem zk7 {l rr:List UInt8} {e:Ent} (h:j0 l=some (e,rr)):∃ r1 r2 x r3 y r4,nmR l=some (e.1,r1)/\xT r1=some (e.2.1,r2)/\yk 8 r2=some (x,r3)/\yk 4 r3=some (y,r4)/\js r4=some (e.2.2.1,rr)/\e.2.2.2.1=lev x/\e.2.2.2.2=(lev y:Int):=by
 unfold j0 at h;split at h
 ·cases h
 rename_i n r1 g1;split at h
 ·cases h
 rename_i cs r2 g2;split at h
 ·cases h
 rename_i x r3 g3;split at h
 ·cases h
 rename_i y r4 g4;split at h
 ·cases h
 rename_i o r5 g5;injection h with h
 injection h with h1 h2
 subst h1 h2;exact⟨r1,r2,x,r3,y,r4,g1,g2,g3,g4,g5,rfl,rfl⟩
def sN (st:Option (List UInt8)):Option (List UInt8):=(st.bind nmR).map fun p=>p.2
def sC (st:Option (List UInt8)):Option (List UInt8):=(st.bind xT).map fun p=>p.2
def sK (n:Nat) (st:Option (List UInt8)):Option (List UInt8):=(st.bind (yk n)).map fun p=>p.2
def s1 (st:Option (List UInt8)):Option (List UInt8):=(st.bind js).map fun p=>p.2
theorem zpc (l:List UInt8):s1 (sK 4 (sK 8 (sC (sN (some l)))))=(j0 l).map fun p=>p.2:=by
 unfold j0 sN;show s1 (sK 4 (sK 8 (sC ((nmR l).map fun p=>p.2))))=_;cases nmR l with
 |none=>rfl
 |some p1=>
  dsimp only [Option.map];show s1 (sK 4 (sK 8 ((xT p1.2).map fun p=>p.2)))=_;cases xT p1.2 with
  |none=>rfl
  |some p2=>
   dsimp only [Option.map];show s1 (sK 4 ((yk 8 p2.2).map fun p=>p.2))=_;cases yk 8 p2.2 with
   |none=>rfl
   |some p3=>
    dsimp only [Option.map];show s1 ((yk 4 p3.2).map fun p=>p.2)=_;cases yk 4 p3.2 with
    |none=>rfl
    |some p4=>
     dsimp only [Option.map];show(js p4.2).map (fun p=>p.2)=_;cases js p4.2 with
     |none=>rfl
     |some p5=>rfl
theorem zk8 {l rr:List UInt8} {e:Snp} (h:kD l=some (e,rr)):∃ r1,nmR l=some (e.1,r1)/\js r1=some (e.2,rr):=by
 unfold kD at h;split at h
 ·cases h
 rename_i n r1 g1;split at h
 ·cases h
 rename_i o r2 g2;injection h with h
 injection h with h1 h2
 subst h1 h2;exact⟨r1,g1,g2⟩
theorem zpd (l:List UInt8):s1 (sN (some l))=(kD l).map fun p=>p.2:=by
 unfold kD sN;show s1 ((nmR l).map fun p=>p.2)=_;cases nmR l with
 |none=>rfl
 |some p1=>
  dsimp only [Option.map];show(js p1.2).map (fun p=>p.2)=_;cases js p1.2 with
  |none=>rfl
  |some p5=>rfl
theorem ziZ {n:Nat} {l a t:List UInt8} (h:yk n l=some (a,t)):t.length<=l.length:=by
 have:=(qb h).2;rw[<- this,length_append];omega
theorem zpM {l t:List UInt8} {s:ByteArray} (h:nmR l=some (s,t)):t.length<=l.length:=by
 rw[<- zfa h,length_append];omega
theorem zpe {l t:List UInt8} {e:Ent} (h:j0 l=some (e,t)):t.length<=l.length:=by
 rw[<- (zm6 h).1,length_append];omega
theorem zpf {l t:List UInt8} {e:Snp} (h:kD l=some (e,t)):t.length<=l.length:=by
 rw[<- (zm8 h).1,length_append];omega
def Left {α:Type} (f:List UInt8->Option (α×List UInt8)) (tot:Option (List α×List UInt8)) (j:Nat) (acc:List α) (l:List UInt8):Prop:=tot=(qI f j l).map fun p=>(acc++p.1,p.2)
theorem Left.bad {α:Type} {f:List UInt8->Option (α×List UInt8)} {tot:Option (List α×List UInt8)} {j:Nat} {acc:List α} {l:List UInt8} (h:Left f tot (j+1) acc l) (hf:f l=none):tot=none:=by
 unfold Left qI at h;rw[hf]at h;exact h
theorem Left.step {α:Type} {f:List UInt8->Option (α×List UInt8)} {tot:Option (List α×List UInt8)} {j:Nat} {acc:List α} {l t:List UInt8} {x:α} (h:Left f tot (j+1) acc l) (hf:f l=some (x,t)):Left f tot j (acc++[x]) t:=by
 unfold Left qI at h;rw[hf]at h;dsimp only at h;unfold Left;rw[h];cases qI f j t with
 |none=>rfl
 |some p=>simp
theorem Left.done {α:Type} {f:List UInt8->Option (α×List UInt8)} {tot:Option (List α×List UInt8)} {acc:List α} {l:List UInt8} (h:Left f tot 0 acc l):tot=some (acc,l):=by
 unfold Left qI at h;rw[h];simp
theorem Left.init {α:Type} {f:List UInt8->Option (α×List UInt8)} {n:Nat} {l:List UInt8}:Left f (qI f n l) n [] l:=by
 unfold Left;cases qI f n l with
 |none=>rfl
 |some p=>rfl
end V
/- Contracts of the package catalog:Read. -/
namespace V
open Go Go.Proofs Go.RowKit Crc
variable {w w':World} {r:Nat} {st:Option (List UInt8)}
theorem rdnum' (h:yZ w r st) {n:Nat} (hn:n<=8):Calls prog 130 #[.pointer (some ⟨r,0,none⟩),.int .i64 (n:Int)] w (Ret fun v w'=>(∃ k:Nat,v=.int .u64 (k:Int)/\(∀ p,st.bind (yk n)=some p->k=lev p.1)/\(st.bind (yk n)=none->k=0))/\zbB r w w' (sK n st)):=by
 refine(zaD h hn).mono (Ret.mono ?_);rintro v w' ⟨rfl,h⟩;exact⟨⟨_,rfl,fun p hp=>by rw[hp],fun hp=>by rw[hp]⟩,h⟩
theorem rdname' (h:yZ w r st):Calls prog 131 #[.pointer (some ⟨r,0,none⟩)] w (Ret fun v w'=>(∃ s:ByteArray,v=.string s/\∀ p,st.bind nmR=some p->s=p.1)/\zbB r w w' (sN st)):=by
 refine(zhi h).mono (Ret.mono ?_);rintro v w' ⟨rfl,h⟩;exact⟨⟨_,rfl,fun p hp=>by rw[hp]⟩,h⟩
def zaE (tot:Option (List Ent×List UInt8)) (z r1 r2 B0:Nat) (j:Nat) (w:World):Prop:=
 ∃ (x:SLC) (raws:List Raw) (st:Option (List UInt8)),Blk w r1 (zB x (none,0,0)) 30/\Owni xg 42 w B0 x.1 x.2.1 x.2.2 raws/\x.2.1+j<=255/\yZ w r2 st/\
  ((st=none/\tot=none)\/∃ l acc,st=some l/\l.length<=z/\yP w B0 x raws acc/\Left j0 tot j acc l)
theorem zfK {α:Type} {l:List α} {x d:α} {i n:Nat} (hn:l.length=n):(l++[x]).getD i d=if i<n then l.getD i d else if i=n then x else d:=by
 simp only [getD_eq_getElem?_getD]
 by_cases h:i<n
 ·rw[if_pos h,List.getElem?_append_left (by omega)]
 ·rw[if_neg h,List.getElem?_append_right (by omega),hn]
  by_cases e:i=n
  ·subst e;simp
  ·rw[if_neg e,List.getElem?_eq_none (by simp;omega)];rfl
theorem yP.snoc {B0:Nat} {x:SLC} {A:Option Addr} {c:Nat} {raws:List Raw} {es:List Ent} {rw_:Raw} {e:Ent} (h:yP w B0 x raws es) (hrow:Owni xg 42 w' B0 A (x.2.1+1) c (raws++[rw_])) (hold:∀ i,i<es.length->xU w' B0 (raws.getD i xf) (es.getD i yu)) (hn:xU w' B0 rw_ e):yP w' B0 (A,x.2.1+1,c) (raws++[rw_]) (es++[e]):=by
 have hl:=h.len;refine⟨hrow,by simp[hl],fun i hi=>?_⟩;rw[zfK hl,zfK rfl]
 by_cases e1:i<es.length
 ·rw[if_pos e1,if_pos e1];exact hold i e1
 ·have:i=es.length:=by simp at hi;omega
  rw[if_neg e1,if_neg e1,if_pos this,if_pos this];exact hn
theorem xU.grown {B0:Nat} {r:Raw} {e:Ent} {A:Option Addr} {n c:Nat} {raws:List Raw} (h:xU w B0 r e) (ho:Owni xg 42 w B0 A n c raws) (hg:w.grownBy w' (orow A)):xU w' B0 r e:=
 ⟨h.name,h.rest,h.cols.grown hg (fun j hj=>ho.ne h.cols (by decide) j hj)⟩
theorem zj3 {tot:Option (List Ent×List UInt8)} {z r1 r2 B0 j:Nat} {K:WP} (hz:z<=1000000) (hr1:r1<B0) (hr2:r2<B0) (h12:r1≠r2) (h:zaE tot z r1 r2 B0 (j+1) w) (hB:B0<=w.heap.size) {l0:List UInt8} (hst:yZ w r2 (some l0))
  (hK:∀ w',zaE tot z r1 r2 B0 j w'->Only (fun k=>k=r1\/k=r2\/B0<=k) w w'->K w'):(zF<|
  ldW .slc (aD r1) fun(u10:SLC)=>
  ze prog 131 [.pointer (some (aD r2))] (.one (.one .str)) fun(u11:ByteArray)=>
  zu [[((aD r1),.slice u10.1 u10.2.1 u10.2.2)]]<|
  ze prog 132 [.pointer (some (aD r2))] (.one (.one .slc)) fun(u12:SLC)=>
  zu [[((aD r1),.slice u10.1 u10.2.1 u10.2.2)]]<|
  ze prog 130 [.pointer (some (aD r2)),.int .i64 8] (.one (.one (.int .u64))) fun(u13:Int)=>
  zu [[((aD r1),.slice u10.1 u10.2.1 u10.2.2)]]<|
  ze prog 130 [.pointer (some (aD r2)),.int .i64 4] (.one (.one (.int .u64))) fun(u14:Int)=>
  zu [[((aD r1),.slice u10.1 u10.2.1 u10.2.2)]]<|
  ze prog 133 [.pointer (some (aD r2))] (.one (.one (.int .u32))) fun(u15:Int)=>
  zu [[((aD r1),.slice u10.1 u10.2.1 u10.2.2)]]<|
  zi (.cells #[.string u11,.slice u12.1 u12.2.1 u12.2.2,.int .u32 u15,.int .u64 u13,.int .i64 (wrap .i64 u14)] 42) fun(r16:Nat)=>
  zu [[((aD r1),.slice u10.1 u10.2.1 u10.2.2)]]<|
  zv prog (Builtin.append_ #[27,27] 27 #[.slice u10.1 u10.2.1 u10.2.2,.slice (some (aD r16)) 1 1]) .slc fun(u17:SLC)=>
  stW (aD r1) (.slice u17.1 u17.2.1 u17.2.2) K) w:=by
 obtain⟨x,raws,st,hb,hrow,hx,hR,hcase⟩:=h;have hst':st=some l0:=by
  cases st with
  |none=>
   obtain⟨s,hs⟩:=hR;have h1:w.heap[r2]?=some _:=hs;have h2:w.heap[r2]?=some _:=hst;rw[h1]at h2;injection h2 with h2
   injection h2 with h2 _ _
   have:=congrArg (fun a=>a.toList[1]?) h2;simp at this
  |some l1=>
   have h1:w.heap[r2]?=some _:=hR;have h2:w.heap[r2]?=some _:=hst;rw[h1]at h2;injection h2 with h2
   injection h2 with h2 _ _
   have:=congrArg (fun a=>a.toList[0]?) h2;simp at this;rw[show l1=l0 from by have:=congrArg V.B this;rwa [xt,xt]at this]
 subst hst';rcases hcase with ⟨e,_⟩|⟨l,acc,e,hlz,hT,hL⟩
 ·cases e
 obtain rfl:l0=l:=by injection e
 have hxl:=hrow.len;refine zS fun w1 he1 hz1 hh1=>?_;have hb:=hb.ext he1;refine zO x hb (by rfl) ?_;have hO:∀ {a c:World},OnR r2 a c->Only (fun k=>k=r1\/k=r2\/B0<=k) a c:=fun o=>o.mono (fun k hk=>.inr (.inl hk));refine zb (rdname' (hR.ext he1)) ?_;rintro _ w2 ⟨⟨nm,rfl,hnm⟩,h2,o2⟩;refine⟨_,rfl,?_⟩;have hb:=hb.only o2 h12;refine xQ (yL hb rfl) ?_;have hs2:=o2.2.2.2.1;have h2:yZ w2 r2 (sN (some l0)):=h2;have hr2l:r2<w2.heap.size:=by omega
 have hle2:∀ q,sN (some l0)=some q->q.length<=z:=fun q hq=>by
  have hq:(nmR l0).map (fun p=>p.2)=some q:=hq;cases hn:nmR l0 with
  |none=>rw[hn]at hq;cases hq
  |some p=>
   rw[hn]at hq;cases hq;show p.2.length<=z;have:p.2.length<=l0.length:=zpM (s:=p.1) hn;omega
 refine zb (zhj h2 hr2l (fun q hq=>by have:=hle2 q hq;omega)) ?_;rintro _ w3 ⟨⟨cx,rfl,hcx⟩,h3,o3⟩;refine⟨cx,rfl,?_⟩;have h3:yZ w3 r2 (sC (sN (some l0))):=h3;have hb:=hb.only o3 h12;refine xQ (yL hb rfl) ?_;have hs3:=o3.2.2.2.1;refine zb (rdnum' h3 (n:=8) (by omega)) ?_;rintro _ w4 ⟨⟨n8,rfl,hn8,_⟩,h4,o4⟩;refine⟨_,rfl,?_⟩;have h4:yZ w4 r2 (sK 8 (sC (sN (some l0)))):=h4;have hb:=hb.only o4 h12;refine xQ (yL hb rfl) ?_;have hs4:=o4.2.2.2.1;refine zb (rdnum' h4 (n:=4) (by omega)) ?_;rintro _ w5 ⟨⟨n4,rfl,hn4,_⟩,h5,o5⟩;refine⟨_,rfl,?_⟩;have h5:yZ w5 r2 (sK 4 (sK 8 (sC (sN (some l0))))):=h5;have hb:=hb.only o5 h12;refine xQ (yL hb rfl) ?_;have hs5:=o5.2.2.2.1;refine zb (zb0 h5) ?_;rintro _ w6 ⟨⟨k,rfl,hk⟩,h6,o6⟩;refine⟨_,rfl,?_⟩;have h6:yZ w6 r2 (s1 (sK 4 (sK 8 (sC (sN (some l0)))))):=h6;rw[zpc]at h6;have hb:=hb.only o6 h12;refine xQ (yL hb rfl) ?_;have hs6:=o6.2.2.2.1
 -- the tables so far
 have o26:OnR r2 w2 w6:=((o3.trans o4).trans o5).trans o6;have o16:OnR r2 w w6:=(OnR.trans (Only.zz he1) o2).trans o26;have o36:OnR r2 w3 w6:=(o4.trans o5).trans o6;have hrow6:=hrow.only o16 (fun q hq e=>by have:=hrow.row q hq;have:q=r2:=e;omega);have hT6:=hT.only o16 (fun q hq=>by have:q=r2:=hq;omega);refine zq fun r16 w7 hb7 he7 hr7 hz7=>?_;have hb:=hb.ext he7;refine xQ (yL hb rfl) ?_;have hxx:Sli xg w7 (some ⟨r16,0,none⟩) 1 [((nm,cx,k,n8,wrap .i64 ((n4:Nat):Int)):Raw)]:=Sli.xA (E:=xg) (xs:=[(nm,cx,k,n8,wrap .i64 ((n4:Nat):Int))]) hb7 rfl (by omega);have hs7:=he7.size;have hrow7:=hrow6.ext he7;refine xk (E:=xg) zhk hrow7 (by omega) hxx (by omega) (by omega) ?_;intro A8 c8 w8 ho8 hg8 _;have hs8:=hg8.grown.size;have hr1r:orow x.1≠some r1:=fun e=>by have:=hrow.row _ e;omega
 have hr2r:orow x.1≠some r2:=fun e=>by have:=hrow.row _ e;omega
 have hb8:Blk w8 r1 (zB x (none,0,0)) 30:=hb.grown hg8.grown (fun e=>hr1r e.symm);refine stE (o:=0) hb8 rfl (by show 0<2;omega) ?_;intro w9 hb9 o9;have o78:Only (fun q=>orow x.1=some q) w7 w8:=Only.zY hg8.grown (fun q hq=>.inl hq);have h9:yZ w9 r2 ((j0 l0).map fun p=>p.2):=((h6.ext he7).only o78 hr2r).only o9 (fun e=>h12 e.symm);have ho9:=ho8.only o9 (fun q hq e=>by have:=ho8.row q hq;have:q=r1:=e;omega);have hall:Only (fun q=>q=r1\/q=r2\/B0<=q) w w9:=by
  refine Only.trans (Only.trans (hO o16) (Only.zz (F:=fun q=>q=r1\/q=r2\/B0<=q) he7) (fun q hq=>.inl hq)) ?_ (fun q hq=>.inl hq);refine Only.trans (F:=fun q=>q=r1\/q=r2\/B0<=q) (o78.mono (fun q hq=>.inr (.inr (hrow.row q hq)))) (o9.mono (fun q hq=>.inl hq)) (fun q hq=>.inl hq)
 refine hK w9 ⟨(A8,x.2.1+1,c8),_,_,hb9,ho9,by dsimp only;omega,h9,?_⟩ hall;cases he:j0 l0 with
 |none=>exact .inl ⟨rfl,hL.bad he⟩
 |some p=>
  obtain⟨e,t⟩:=p;refine .inr ⟨t,acc++[e],rfl,by have:=zpe he;omega,?_,hL.step he⟩;obtain⟨q1,q2,y1,q3,y2,q4,g1,g2,g3,g4,g5,g6,g7⟩:=zk7 he;have eN:sN (some l0)=some q1:=by show(nmR l0).map (fun p=>p.2)=_;rw[g1];rfl
  have eC:sC (sN (some l0))=some q2:=by rw[eN];show(xT q1).map (fun p=>p.2)=_;rw[g2];rfl
  have eK:sK 8 (sC (sN (some l0)))=some q3:=by rw[eC];show(yk 8 q2).map (fun p=>p.2)=_;rw[g3];rfl
  have eK4:sK 4 (sK 8 (sC (sN (some l0))))=some q4:=by rw[eK];show(yk 4 q3).map (fun p=>p.2)=_;rw[g4];rfl
  have enm:nm=e.1:=hnm (e.1,q1) g1;have en8:n8=e.2.2.2.1:=by rw[g6];exact hn8 (y1,q3) (by rw[eC];exact g3)
  have en4:n4=lev y2:=hn4 (y2,q4) (by rw[eK];exact g4);have ek:k=e.2.2.1:=by
   have:=hk (e.2.2.1,t) (by rw[eK4];exact g5);exact this
  have hy2:lev y2<4294967296:=by
   have:=jy y2;rw[(qb g4).1]at this;exact this
  have hcols:=(hcx (e.2.1,q2) (by rw[eN];exact g2));refine yP.snoc (w:=w6) hT6 ho9 (fun i hi=>?_) ⟨enm,?_,?_⟩
  ·have h1:=((hT6.at_ i hi).ext he7).grown hrow7 hg8.grown;exact h1.only o9 (fun q hq=>by have:q=r1:=hq;omega)
  ·show(k,n8,wrap .i64 ((n4:Nat):Int))=e.2.2;rw[ek,en8,en4,wrap_i64 (by omega) (by omega),<- g7]
  ·have h1:=(hcols.lower (B':=B0) (by omega)).only o36 (fun q hq e=>by have:=hcols.row q hq;have:q=r2:=e;omega);have h2:=(h1.ext he7).grown hg8.grown (fun q hq=>hrow7.ne (h1.ext he7) (by decide) q hq);exact h2.only o9 (fun q hq e=>by have:=h2.row q hq;have:q=r1:=e;omega)
end V
/- Contracts of the package catalog:Read. -/
namespace V
open Go Go.Proofs Go.RowKit Crc
variable {w w':World} {r:Nat} {st:Option (List UInt8)}
theorem yZ.zfd {l0:List UInt8} (hR:yZ w r st) (hst:yZ w r (some l0)):st=some l0:=by
 cases st with
 |none=>
  obtain⟨s,hs⟩:=hR;have h1:w.heap[r]?=some _:=hs;have h2:w.heap[r]?=some _:=hst;rw[h1]at h2;injection h2 with h2
  injection h2 with h2 _ _
  have:=congrArg (fun a=>a.toList[1]?) h2;simp at this
 |some l1=>
  have h1:w.heap[r]?=some _:=hR;have h2:w.heap[r]?=some _:=hst;rw[h1]at h2;injection h2 with h2
  injection h2 with h2 _ _
  have:=congrArg (fun a=>a.toList[0]?) h2;simp at this;rw[show l1=l0 from by have:=congrArg V.B this;rwa [xt,xt]at this]
theorem yP.zpN {B0:Nat} {x:SLC} {raws:List Raw} {es:List Ent} {A:Option Addr} {n c:Nat} {ss:List Snp} (h:yP w B0 x raws es) (ho:Owni zA 64 w B0 A n c ss) (hg:w.grownBy w' (orow A)):yP w' B0 x raws es:=
 ⟨h.row.grown hg (fun j hj=>ho.ne h.row (by decide) j hj),h.len,fun i hi=>⟨(h.at_ i hi).name,(h.at_ i hi).rest,(h.at_ i hi).cols.grown hg (fun j hj=>ho.ne (h.at_ i hi).cols (by decide) j hj)⟩⟩
def zaF (tot:Option (List Snp×List UInt8)) (es:List Ent) (z r1 r2 B0:Nat) (j:Nat) (w:World):Prop:=
 ∃ (x y:SLC) (ss:List Snp) (st:Option (List UInt8)),Blk w r1 (zB x y) 30/\Owni zA 64 w B0 y.1 y.2.1 y.2.2 ss/\y.2.1+j<=255/\yZ w r2 st/\
  ((st=none/\tot=none)\/∃ l raws,st=some l/\l.length<=z/\yP w B0 x raws es/\Left kD tot j ss l)
theorem zj4 {tot:Option (List Snp×List UInt8)} {es:List Ent} {z r1 r2 B0 j:Nat} {K:WP} (hz:z<=1000000) (hr1:r1<B0) (hr2:r2<B0) (h12:r1≠r2) (h:zaF tot es z r1 r2 B0 (j+1) w) (hB:B0<=w.heap.size) {l0:List UInt8} (hst:yZ w r2 (some l0))
  (hK:∀ w',zaF tot es z r1 r2 B0 j w'->Only (fun k=>k=r1\/k=r2\/B0<=k) w w'->K w'):(zF<|
  ldW .slc ((aD r1).add 1) fun(u10:SLC)=>
  ze prog 131 [.pointer (some (aD r2))] (.one (.one .str)) fun(u11:ByteArray)=>
  zu [[((aD r1).add 1,.slice u10.1 u10.2.1 u10.2.2)]]<|
  ze prog 133 [.pointer (some (aD r2))] (.one (.one (.int .u32))) fun(u15:Int)=>
  zu [[((aD r1).add 1,.slice u10.1 u10.2.1 u10.2.2)]]<|
  zi (.cells #[.string u11,.int .u32 u15] 64) fun(r16:Nat)=>
  zu [[((aD r1).add 1,.slice u10.1 u10.2.1 u10.2.2)]]<|
  zv prog (Builtin.append_ #[28,28] 28 #[.slice u10.1 u10.2.1 u10.2.2,.slice (some (aD r16)) 1 1]) .slc fun(u17:SLC)=>
  stW ((aD r1).add 1) (.slice u17.1 u17.2.1 u17.2.2) K) w:=by
 obtain⟨x,y,ss,st,hb,hrow,hx,hR,hcase⟩:=h;obtain rfl:=hR.zfd hst;rcases hcase with ⟨e,_⟩|⟨l,raws,e,hlz,hT,hL⟩
 ·cases e
 obtain rfl:l0=l:=by injection e
 have hxl:=hrow.len;refine zS fun w1 he1 hz1 hh1=>?_;have hb:=hb.ext he1;refine zn 1 y hb (by rfl) ?_;refine zb (rdname' (hR.ext he1)) ?_;rintro _ w2 ⟨⟨nm,rfl,hnm⟩,h2,o2⟩;refine⟨_,rfl,?_⟩;have hb:=hb.only o2 h12;refine xQ (yY hb rfl) ?_;have hs2:=o2.2.2.2.1;refine zb (zb0 h2) ?_;rintro _ w6 ⟨⟨k,rfl,hk⟩,h6,o6⟩;refine⟨_,rfl,?_⟩;have h6:yZ w6 r2 (s1 (sN (some l0))):=h6;rw[zpd]at h6;have hb:=hb.only o6 h12;refine xQ (yY hb rfl) ?_;have hs6:=o6.2.2.2.1;have o16:OnR r2 w w6:=(OnR.trans (Only.zz he1) o2).trans o6;have hrow6:=hrow.only o16 (fun q hq e=>by have:=hrow.row q hq;have:q=r2:=e;omega);have hT6:=hT.only o16 (fun q hq=>by have:q=r2:=hq;omega);refine zq fun r16 w7 hb7 he7 hr7 hz7=>?_;have hb:=hb.ext he7;refine xQ (yY hb rfl) ?_;have hxx:Sli zA w7 (some ⟨r16,0,none⟩) 1 [((nm,k):Snp)]:=Sli.xA (E:=zA) (xs:=[(nm,k)]) hb7 rfl (by omega);have hs7:=he7.size;have hrow7:=hrow6.ext he7;refine xk (E:=zA) qS hrow7 (by omega) hxx (by omega) (by omega) ?_;intro A8 c8 w8 ho8 hg8 _;have hs8:=hg8.grown.size;have hr1r:orow y.1≠some r1:=fun e=>by have:=hrow.row _ e;omega
 have hr2r:orow y.1≠some r2:=fun e=>by have:=hrow.row _ e;omega
 have hb8:Blk w8 r1 (zB x y) 30:=hb.grown hg8.grown (fun e=>hr1r e.symm);refine stE (o:=1) hb8 (by rw[zw]) (by show 1<2;omega) ?_;intro w9 hb9 o9;have o78:Only (fun q=>orow y.1=some q) w7 w8:=Only.zY hg8.grown (fun q hq=>.inl hq);have h9:yZ w9 r2 ((kD l0).map fun p=>p.2):=((h6.ext he7).only o78 hr2r).only o9 (fun e=>h12 e.symm);have ho9:=ho8.only o9 (fun q hq e=>by have:=ho8.row q hq;have:q=r1:=e;omega);have hall:Only (fun q=>q=r1\/q=r2\/B0<=q) w w9:=by
  refine Only.trans (Only.trans (o16.mono (fun k hk=>.inr (.inl hk))) (Only.zz (F:=fun q=>q=r1\/q=r2\/B0<=q) he7) (fun q hq=>.inl hq)) ?_ (fun q hq=>.inl hq);refine Only.trans (F:=fun q=>q=r1\/q=r2\/B0<=q) (o78.mono (fun q hq=>.inr (.inr (hrow.row q hq)))) (o9.mono (fun q hq=>.inl hq)) (fun q hq=>.inl hq)
 refine hK w9 ⟨x,(A8,y.2.1+1,c8),_,_,hb9,ho9,by dsimp only;omega,h9,?_⟩ hall;cases he:kD l0 with
 |none=>exact .inl ⟨rfl,hL.bad he⟩
 |some p=>
  obtain⟨e,t⟩:=p;obtain⟨q1,g1,g5⟩:=zk8 he;have eN:sN (some l0)=some q1:=by show(nmR l0).map (fun p=>p.2)=_;rw[g1];rfl
  have enm:nm=e.1:=hnm (e.1,q1) g1;have ek:k=e.2:=hk (e.2,t) (by rw[eN];exact g5);have ee:((nm,k):Snp)=e:=by rw[enm,ek]
  refine .inr ⟨t,raws,rfl,by have:=zpf he;omega,?_,by rw[ee];exact hL.step he⟩;exact((hT6.ext he7).zpN hrow7 hg8.grown).only o9 (fun q hq=>by have:q=r1:=hq;omega)
theorem zaE.rd {tot:Option (List Ent×List UInt8)} {z r1 r2 B0 j:Nat} (h:zaE tot z r1 r2 B0 j w):∃ st,yZ w r2 st/\(st=none->tot=none):=by
 obtain⟨x,raws,st,hb,hrow,hx,hR,hcase⟩:=h;refine⟨st,hR,fun e=>?_⟩;rcases hcase with ⟨_,h⟩|⟨l,acc,e',_⟩
 ·exact h
 ·rw[e]at e';cases e'
theorem zaF.rd {tot:Option (List Snp×List UInt8)} {es:List Ent} {z r1 r2 B0 j:Nat} (h:zaF tot es z r1 r2 B0 j w):∃ st,yZ w r2 st/\(st=none->tot=none):=by
 obtain⟨x,y,ss,st,hb,hrow,hx,hR,hcase⟩:=h;refine⟨st,hR,fun e=>?_⟩;rcases hcase with ⟨_,h⟩|⟨l,acc,e',_⟩
 ·exact h
 ·rw[e]at e';cases e'
def jL (s:List UInt8):Option (List Ent×List UInt8):=match yk 1 s with
 |none=>none
 |some (b,r)=>qI j0 (lev b) r
def zcJ (t:Option (List Ent×List UInt8)):Option (List Snp×List UInt8):=match t with
 |none=>none
 |some (_,r)=>match yk 1 r with
  |none=>none
  |some (b,r')=>qI kD (lev b) r'
theorem zdW (s:List UInt8):ze8 s=match jL s with
 |none=>none
 |some (ts,r)=>match zcJ (some (ts,r)) with
  |none=>none
  |some (ss,r4)=>if r4=[] then some (ts,ss) else none:=by
 unfold ze8 jL zcJ;cases yk 1 s with
 |none=>rfl
 |some p=>
  obtain⟨b,r⟩:=p;dsimp only;cases qI j0 (lev b) r with
  |none=>rfl
  |some q=>
   obtain⟨ts,r2⟩:=q;dsimp only;cases yk 1 r2 with
   |none=>rfl
   |some q2=>rfl
end V
/- Contracts of the package catalog:Read,whole. -/
namespace V
open Go Go.Proofs Go.RowKit Crc
variable {w w':World}
theorem zcK (s:ByteArray):(s.toList==(ByteArray.mk #[]).toList)=decide (B s=[]):=by rw[jU];rfl
theorem zaE.out {tot:Option (List Ent×List UInt8)} {z r1 r2 B0 j:Nat} (h:zaE tot z r1 r2 B0 j w) (hj:(∃ st,yZ w r2 st/\st=none)\/j=0):zaE tot z r1 r2 B0 0 w:=by
 obtain⟨x,raws,st,hb,hrow,hx,hR,hcase⟩:=h;rcases hj with ⟨st',h1,rfl⟩|rfl
 ·cases st with
  |none=>exact⟨x,raws,none,hb,hrow,by omega,hR,.inl ⟨rfl,by rcases hcase with ⟨_,h⟩|⟨l,acc,e',_⟩;exact h;cases e'⟩⟩
  |some l=>exact absurd (h1.zfd hR) (by simp)
 ·exact⟨x,raws,st,hb,hrow,hx,hR,hcase⟩
theorem zaF.out {tot:Option (List Snp×List UInt8)} {es:List Ent} {z r1 r2 B0 j:Nat} (h:zaF tot es z r1 r2 B0 j w) (hj:(∃ st,yZ w r2 st/\st=none)\/j=0):zaF tot es z r1 r2 B0 0 w:=by
 obtain⟨x,y,ss,st,hb,hrow,hx,hR,hcase⟩:=h;rcases hj with ⟨st',h1,rfl⟩|rfl
 ·cases st with
  |none=>exact⟨x,y,ss,none,hb,hrow,by omega,hR,.inl ⟨rfl,by rcases hcase with ⟨_,h⟩|⟨l,acc,e',_⟩;exact h;cases e'⟩⟩
  |some l=>exact absurd (h1.zfd hR) (by simp)
 ·exact⟨x,y,ss,st,hb,hrow,hx,hR,hcase⟩
theorem zf3 {s:ByteArray} (hs:s.size<=1000000):Calls prog 89 #[.string s] w (Ret fun v w'=>(∃ x y,v=.tuple #[.agg (zB x y).toArray,.int .i64 (kr (B s)).2]/\z8 w' w.heap.size x y (kr (B s)).1)/\Ext w w'):=by
 apply zoM;unfold S89;refine zq fun r1 w1 hb1 he1 hr1 hz1=>?_;refine zq fun r2 w2 hb2 he2 hr2 hz2=>?_;have hb1:Blk w2 r1 (zB (none,0,0) (none,0,0)) 30:=hb1.ext he2;have hR2:yZ w2 r2 (some (B s)):=by
  show Blk w2 r2 [.string (mkB (B s)),.int .i64 0] _;rw[zjp];exact hb2
 have he02:=he1.trans he2;have h12:r1≠r2:=by omega
 have hlen:=yp s;generalize hB0:w2.heap.size=B0 at *;have hr1B:r1<B0:=by omega
 have hr2B:r2<B0:=by omega
 have hup:∀ {w8:World},Only (fun k=>k=r1\/k=r2\/B0<=k) w2 w8->Ext w w8:=fun o=>Only.ext he02 o (fun j hj=>by rcases hj with e|e|e<;>omega)
 -- the tables
 refine yv (fun _ w'=>zaE (jL (B s)) s.size r1 r2 B0 0 w'/\Only (fun k=>k=r1\/k=r2\/B0<=k) w2 w') ?_ (fun J3 hJ3=>?_);rotate_left
 ·refine zb (rdnum' hR2 (n:=1) (by omega)) ?_;rintro _ w3 ⟨⟨n,rfl,hn,hn0⟩,h3,o3⟩;refine⟨_,rfl,?_⟩;have h3:yZ w3 r2 ((yk 1 (B s)).map fun p=>p.2):=h3;have hs3:=o3.2.2.2.1;have hI:zaE (jL (B s)) s.size r1 r2 B0 n w3/\n<=255:=by
   cases hc:yk 1 (B s) with
   |none=>
    have:=hn0 hc;rw[hc]at h3;subst this;exact⟨⟨(none,0,0),[],none,hb1.only o3 h12,Owni.nil _ _ _,by simp,h3,.inl ⟨rfl,by unfold jL;rw[hc]⟩⟩,by omega⟩
   |some p=>
    obtain⟨q,t⟩:=p;have e:=hn (q,t) hc;rw[hc]at h3;have hlv:lev q<256:=by
     have:=jy q;rw[(qb hc).1]at this;exact this
    dsimp only at e;refine⟨⟨(none,0,0),[],some t,hb1.only o3 h12,Owni.nil _ _ _,by dsimp only;omega,h3,.inr ⟨t,[],rfl,by have:=ziZ hc;omega,⟨Owni.nil _ _ _,rfl,fun i hi=>by cases hi⟩,?_⟩⟩,by omega⟩;have:jL (B s)=qI j0 n t:=by unfold jL;rw[hc,e]
    rw[this];exact Left.init
  obtain⟨hI,hn255⟩:=hI;refine zE (fun y w'=>∃ j:Nat,j<=255/\y=((j:Int),())/\zaE (jL (B s)) s.size r1 r2 B0 j w'/\Only (fun k=>k=r1\/k=r2\/B0<=k) w2 w'/\B0<=w'.heap.size) (fun y=>y.1.toNat) ⟨n,hn255,rfl,hI,o3.mono (fun k hk=>.inr (.inl hk)),by omega⟩ ?_;rintro _ w4 ⟨j,hj,rfl,hI4,o4,hs4⟩;dsimp only;obtain⟨st,hR4,_⟩:=hI4.rd
  by_cases h0:j=0
  ·subst h0;exact zd (by rfl) (hJ3 _ _ ⟨hI4,o4⟩)
  ·refine zf (decide_eq_true (by omega)) (zt ?_);cases st with
   |none=>
    obtain⟨s',hs'⟩:=id hR4;exact zn 1 (240:Int) hs' (by rfl) (zd (by rfl) (hJ3 _ _ ⟨hI4.out (.inl ⟨none,hR4,rfl⟩),o4⟩))
   |some l=>
    have hb4:Blk w4 r2 [.string (mkB l),.int .i64 0] 216:=hR4;obtain⟨j,rfl⟩:∃ j',j=j'+1:=⟨j-1,by omega⟩;refine zn 1 (0:Int) hb4 (by rfl) (zf (by rfl) ?_);refine zj3 hs hr1B hr2B h12 hI4 hs4 hR4 fun w5 hI5 o5=>?_;have ew:wrap .u64 (((j+1:Nat):Int)-1)=(j:Int):=by rw[show((j+1:Nat):Int)-1=((j:Nat):Int) by omega,zD (by omega)]
    have hs5:=o5.2.2.2.1;exact⟨⟨j,by omega,by rw[ew],hI5,Only.trans o4 o5 (fun k hk=>.inl hk),by omega⟩,by rw[ew];omega⟩
 rintro _ w3 ⟨hI,o3⟩;obtain⟨x,raws,st,hb3,hrow,hx,hR3,hcase⟩:=hI;have hs3:=o3.2.2.2.1
 -- the snapshots
 refine yv (fun _ w'=>∃ es,zaF (zcJ (jL (B s))) es s.size r1 r2 B0 0 w'/\(∀ ts t,jL (B s)=some (ts,t)->es=ts)/\Only (fun k=>k=r1\/k=r2\/B0<=k) w2 w') ?_ (fun J18 hJ18=>?_);rotate_left
 ·refine zb (rdnum' hR3 (n:=1) (by omega)) ?_;rintro _ w4 ⟨⟨n,rfl,hn,hn0⟩,h4,o4⟩;refine⟨_,rfl,?_⟩;have hs4:=o4.2.2.2.1;have hI:∃ es,zaF (zcJ (jL (B s))) es s.size r1 r2 B0 n w4/\(∀ ts t,jL (B s)=some (ts,t)->es=ts)/\n<=255:=by
   rcases hcase with ⟨rfl,ht⟩|⟨l,acc,rfl,hlz,hT,hL⟩
   ·have:=hn0 rfl;subst this;exact⟨[],⟨x,(none,0,0),[],none,hb3.only o4 h12,Owni.nil _ _ _,by simp,h4,.inl ⟨rfl,by rw[ht];rfl⟩⟩,fun ts t h=>(by rw[ht]at h;cases h),by omega⟩
   ·have ht:=hL.done;have h4:yZ w4 r2 ((yk 1 l).map fun p=>p.2):=h4;have hT4:=hT.only o4 (fun q hq=>by have:q=r2:=hq;omega);refine⟨acc,?_⟩;cases hc:yk 1 l with
    |none=>
     have:=hn0 hc;rw[hc]at h4;subst this;exact⟨⟨x,(none,0,0),[],none,hb3.only o4 h12,Owni.nil _ _ _,by simp,h4,.inl ⟨rfl,by rw[ht];unfold zcJ;dsimp only;rw[hc]⟩⟩,fun ts t h=>by rw[ht]at h;cases h;rfl,by omega⟩
    |some p=>
     obtain⟨q,t⟩:=p;have e:=hn (q,t) hc;rw[hc]at h4;have hlv:lev q<256:=by
      have:=jy q;rw[(qb hc).1]at this;exact this
     dsimp only at e;refine⟨⟨x,(none,0,0),[],some t,hb3.only o4 h12,Owni.nil _ _ _,by dsimp only;omega,h4,.inr ⟨t,raws,rfl,by have:=ziZ hc;omega,hT4,?_⟩⟩,fun ts t h=>by rw[ht]at h;cases h;rfl,by omega⟩;have:zcJ (jL (B s))=qI kD n t:=by rw[ht];unfold zcJ;dsimp only;rw[hc,e]
     rw[this];exact Left.init
  obtain⟨es,hI,hes,hn255⟩:=hI;refine zE (fun y w'=>∃ j:Nat,j<=255/\y=((j:Int),())/\zaF (zcJ (jL (B s))) es s.size r1 r2 B0 j w'/\Only (fun k=>k=r1\/k=r2\/B0<=k) w2 w'/\B0<=w'.heap.size) (fun y=>y.1.toNat) ⟨n,hn255,rfl,hI,Only.trans o3 (o4.mono (fun k hk=>.inr (.inl hk))) (fun k hk=>.inl hk),by omega⟩ ?_;rintro _ w5 ⟨j,hj,rfl,hI5,o5,hs5⟩;dsimp only;obtain⟨st',hR5,_⟩:=hI5.rd
  by_cases h0:j=0
  ·subst h0;exact zd (by rfl) (hJ18 _ _ ⟨es,hI5,hes,o5⟩)
  ·refine zf (decide_eq_true (by omega)) (zt ?_);cases st' with
   |none=>
    obtain⟨s',hs'⟩:=id hR5;exact zn 1 (240:Int) hs' (by rfl) (zd (by rfl) (hJ18 _ _ ⟨es,hI5.out (.inl ⟨none,hR5,rfl⟩),hes,o5⟩))
   |some l=>
    have hb5:Blk w5 r2 [.string (mkB l),.int .i64 0] 216:=hR5;obtain⟨j,rfl⟩:∃ j',j=j'+1:=⟨j-1,by omega⟩;refine zn 1 (0:Int) hb5 (by rfl) (zf (by rfl) ?_);refine zj4 hs hr1B hr2B h12 hI5 hs5 hR5 fun w6 hI6 o6=>?_;have ew:wrap .u64 (((j+1:Nat):Int)-1)=(j:Int):=by rw[show((j+1:Nat):Int)-1=((j:Nat):Int) by omega,zD (by omega)]
    have hs6:=o6.2.2.2.1;exact⟨⟨j,by omega,by rw[ew],hI6,Only.trans o5 o6 (fun k hk=>.inl hk),by omega⟩,by rw[ew];omega⟩
 rintro _ w4 ⟨es,hI,hes,o4⟩;obtain⟨x,y,ss,st,hb4,hrow,hx,hR4,hcase⟩:=hI;have he4:=hup o4;have hs4:=o4.2.2.2.1;have bad:∀ {w5:World},Blk w5 r1 (zB x y) 30->Ext w w5->kr (B s)=(zaz,240)->(zc ((#[.slice none 0 0,.slice none 0 0]:Array Value).size=2)<|zr (aD r1) [.slice none 0 0,.slice none 0 0]<|zl [.slc,.slc] (aD r1) fun(u:SLC×SLC×Unit)=>fun w'=>(∃ x y,Value.tuple #[.agg #[.slice u.1.1 u.1.2.1 u.1.2.2,.slice u.2.1.1 u.2.1.2.1 u.2.1.2.2],.int .i64 240]=.tuple #[.agg (zB x y).toArray,.int .i64 (kr (B s)).2]/\z8 w' w.heap.size x y (kr (B s)).1)/\Ext w w') w5:=by
  intro w5 hb5 he5 hk;refine refill (vs:=zB (none,0,0) (none,0,0)) hb5 (by rfl) (ye _ _) (by rfl) ?_;intro w6 hb6 hx6 hk6 hz6;refine zK (ls:=yy) (yl (none,0,0) (none,0,0)) hb6 (by rfl) ?_;rw[hk];exact⟨⟨_,_,rfl,uf _ _⟩,hx6 w he5 (by omega)⟩
 refine zt ?_;rcases hcase with ⟨rfl,ht⟩|⟨l,raws',rfl,hlz,hT,hL⟩
 ·obtain⟨s',hs'⟩:=hR4;refine zn 1 (240:Int) hs' (by rfl) (zf (by rfl) ?_);refine bad hb4 he4 ?_;unfold kr;rw[zdW];cases hq:jL (B s) with
  |none=>rfl
  |some p=>rw[hq]at ht;dsimp only;rw[ht]
 have hb42:Blk w4 r2 [.string (mkB l),.int .i64 0] 216:=hR4;refine zn 1 (0:Int) hb42 (by rfl) (zd (by rfl) (zt ?_));refine zO (mkB l) hb42 (by rfl) ?_;have ht:=hL.done;obtain⟨t0,ht0⟩:∃ t0,jL (B s)=some (es,t0):=by
  cases hq:jL (B s) with
  |none=>rw[hq]at ht;cases ht
  |some p=>
   obtain⟨p1,p2⟩:=p;exact⟨p2,by rw[hes p1 p2 hq]⟩
 rw[ht0]at ht;rw[zcK]
 by_cases hl:l=[]
 ·subst hl;refine zd (by rfl) ?_;refine zK (ls:=yy) (yl x y) hb4 (by rfl) ?_;have hrd:ze8 (B s)=some (es,ss):=by
   rw[zdW,ht0];dsimp only;rw[ht];dsimp only;rw[if_pos rfl]
  have hown:z8 w4 B0 x y (es,ss):=⟨⟨raws',hT⟩,hrow⟩;refine zb (za1 hown.cat) ?_;rintro _ w5 ⟨rfl,he5⟩;refine⟨_,rfl,?_⟩;have hb5:=hb4.ext he5;have he05:=he4.trans he5;cases hok:va (es,ss) with
  |false=>
   refine zf (by rfl) (bad hb5 he05 ?_);unfold kr;rw[hrd];dsimp only;rw[hok];rfl
  |true=>
   refine zd (by rfl) ?_;refine zK (ls:=yy) (yl x y) hb5 (by rfl) ?_;refine refill (vs:=zB x y) hb5 (by rfl) (ye _ _) (by rfl) ?_;intro w6 hb6 hx6 hk6 hz6;have he6:=hx6 w he05 (by omega);refine zK (ls:=yy) (yl x y) hb6 (by rfl) ?_;have hk:kr (B s)=((es,ss),0):=by
    unfold kr;rw[hrd];dsimp only;rw[hok];rfl
   rw[hk];refine⟨⟨x,y,rfl,((hown.ext he5).only (F:=fun k=>k=r1) ⟨he6.os.trans he05.os.symm,he6.tape.trans he05.tape.symm,he6.output.trans he05.output.symm,Nat.le_of_eq hz6.symm,fun k _ hk=>hk6 k hk⟩ (fun k hk=>by omega)).lower (by have:=he02.size;omega)⟩,he6⟩
 ·refine zf (by rw[decide_eq_false (by rw[xt];exact hl)];rfl) (bad hb4 he4 ?_);unfold kr;rw[zdW,ht0];dsimp only;rw[ht];dsimp only;rw[if_neg hl]
end V
/- Contracts of the package shadowbookref24:Same. -/
namespace V
open Go Go.Proofs Go.RowKit Crc
variable {w w':World}
theorem znz {α:Type} {l:List α} {i:Nat} {d:α} (h:i<l.length):l.take (i+1)=l.take i++[l.getD i d]:=by
 rw[take_succ_eq_append_getElem h,getD_eq_getElem?_getD,List.getElem?_eq_getElem h];rfl
end V
/- Contracts of the package blob:index,parts. -/
namespace V
open Go Go.Proofs Go.RowKit Crc
def qd (S:Spa) (n:Nat):Nat×List Nat×Int:=
 if (S.get n).2≠0 then (0,[],(S.get n).2)
 else if (S.get n).1.1≠6 then (0,[],11)
 else if (S.get n).1.2.2.size≠4 then (0,[],10)
 else if lev (B (S.get n).1.2.2)>65536\/nparts S.r0 (lev (B (S.get n).1.2.2))≠(S.get n).1.2.1.length then (0,[],10)
 else (lev (B (S.get n).1.2.2),(S.get n).1.2.1,0)
def zbC (S:Spa) (want k:Nat):Int:=if (S.get k).2=0/\((S.get k).1.1≠7\/0<(S.get k).1.2.1.length\/(S.get k).1.2.2.size≠want) then 10 else (S.get k).2
def goS (S:Spa):Nat->List Nat->List (ByteArray×Int)
 |_,[]=>[]
 |size,k::ks=>if zbC S (min size S.r0) k≠0 then [(ByteArray.empty,zbC S (min size S.r0) k)] else ((S.get k).1.2.2,0)::goS S (size-min size S.r0) ks
def yb (S:Spa) (n:Nat):List (ByteArray×Int):=if (qd S n).2.2≠0 then [(ByteArray.empty,(qd S n).2.2)] else goS S (qd S n).1 (qd S n).2.1
def qU (l:List (ByteArray×Int)):List (List Value):=l.map fun p=>[.string p.1,.int .i64 p.2]
theorem x6 (l:List (ByteArray×Int)):(qU l).length=l.length:=by simp[qU]
theorem zk9 {l:List (ByteArray×Int)} {i:Nat} (h:i<(qU l).length) {p:ByteArray×Int} (hp:l[i]?=some p):(qU l)[i]=[.string p.1,.int .i64 p.2]:=by
 obtain⟨h1,h2⟩:=List.getElem?_eq_some_iff.1 hp;simp[qU,h2]
variable {w w':World} {b db:Nat} {S:Spa} {F Fd:Nat->Prop} {x:SLC} {hb hr nb nr:Nat} {m:MkL}
theorem zdX {n:Nat} (h:(S.get n).2=0):(S.get n).1.2.1.length<=1024/\∀ k∈(S.get n).1.2.1,2<=k/\k<S.N:=by
 unfold Spa.get at h ⊢;split
 ·rename_i hq;rw[if_pos hq]at h;cases h
 ·rename_i hq;rw[if_neg hq]at h;split
  ·rename_i h0;rw[if_pos h0]at h;cases h
  ·exact zeu
theorem zhl (h:SpM w b db S F Fd x hb hr nb nr m) {n:Nat} (hn:n<4294967296):
  Calls prog 160 #[.pointer (some ⟨b,0,none⟩),.int .u32 (n:Int)] w (Ret fun v w'=>∃ y:SLC,v=.tuple #[.int .i64 ((qd S n).1:Int),.slice y.1 y.2.1 y.2.2,.int .i64 (qd S n).2.2]/\Owni (zx .u32) 39 w' w.heap.size y.1 y.2.1 y.2.2 (qd S n).2.1/\Ext w w'):=by
 obtain⟨q0,q1,q2,q3⟩:=xO h.dims;apply zmg;unfold S160 qd;refine zb (v8 h hn) ?_;rintro _ w1 ⟨y,rfl,hok,he1⟩;refine⟨(pgT (S.get n).1 y,(S.get n).2,()),rfl,?_⟩;refine yd (vs:=pgV (S.get n).1 y) (by rfl) (jo _ _) (fun r2 w2 hb2 he2 hr2=>?_) (by rfl);have he:=he1.trans he2;have hok2:=hok.ext he2;dsimp only;refine zg (fun hq=>?_) (fun hq=>?_)
 ·have hq:=bne_iff_ne.1 hq;rw[if_pos hq];exact⟨(none,0,0),rfl,Owni.nil _ _ _,he⟩
 have h0:=bne_eq_false_iff_eq.1 hq;rw[if_neg (fun hh=>hh h0)];have hkl:=zdX h0;have hyn:=hok2.len;refine zO (((S.get n).1.1.toNat:Nat):Int) hb2 (by rfl) ?_;refine zg (fun hq=>?_) (fun hq=>?_)
 ·have hq:=bne_iff_ne.1 hq;rw[if_pos (by intro e;rw[e]at hq;exact hq rfl)];exact⟨(none,0,0),rfl,Owni.nil _ _ _,he⟩
 have h6:=bne_eq_false_iff_eq.1 hq;have h6':(S.get n).1.1=6:=by
  apply UInt8.toNat_inj.1;show _=6;omega
 rw[if_neg (fun hh=>hh h6')];refine zn 2 (S.get n).1.2.2 hb2 (by rfl) ?_;refine zg (fun hq=>?_) (fun hq=>?_)
 ·have hq:=bne_iff_ne.1 hq;rw[if_pos (by omega)];exact⟨(none,0,0),rfl,Owni.nil _ _ _,he⟩
 have h4:=bne_eq_false_iff_eq.1 hq;have h4':(S.get n).1.2.2.size=4:=by omega
 rw[if_neg (fun hh=>hh h4')];refine zn 2 (S.get n).1.2.2 hb2 (by rfl) ?_;refine kR (u:=.string) (e:=5) (by kernel_rfl) (by kernel_rfl) (by kernel_rfl) (by omega) ?_;intro c w3 hsl he3 hs3 hc3;refine zb (qN hsl (by dsimp only;omega)) ?_;rintro _ w4 ⟨rfl,he4⟩;refine⟨_,rfl,?_⟩;have hlv:lev (B (S.get n).1.2.2)<4294967296:=by
  have:=zkH (B (S.get n).1.2.2);unfold rd at this;have hl:(B (S.get n).1.2.2).length=4:=by rw[<- yp];exact h4'
  rw[if_neg (by omega),take_of_length_le (by omega)]at this;exact this
 generalize lev (B (S.get n).1.2.2)=z at *;have he34:=he3.trans he4;have he04:=he.trans he34;refine zb (qO (h.ext he04) (k:=0) (by omega) (by omega)) ?_;rintro _ w5 ⟨rfl,he5⟩;refine⟨_,rfl,?_⟩;have he05:=he04.trans he5;rw[q0,wrap_i64 (x:=(z:Int)) (by omega) (by omega)];refine zS fun w6 he6 _ _=>?_;have he06:=he05.trans he6;have he26:=(he34.trans he5).trans he6;refine zg (fun hq=>?_) (fun hq=>?_)
 ·have hq:=of_decide_eq_true hq;rw[if_pos (.inl (by omega))];exact⟨(none,0,0),rfl,Owni.nil _ _ _,he06⟩
 have hz:=of_decide_eq_false hq;refine zC (by omega) ?_;refine zn (l:=.slc) 1 y (hb2.ext he26) (by rfl) ?_;have hnp:nparts S.r0 z<=65536:=by
  unfold nparts;rw[Nat.div_le_iff_le_mul_add_pred (by omega)];have:110*65536<=S.r0*65536:=Nat.mul_le_mul_right _ q1;omega
 have eM:wrap .i64 (Int.tdiv (wrap .i64 (wrap .i64 ((z:Int)+(S.r0:Int))-1)) (S.r0:Int))=(nparts S.r0 z:Int):=by
  rw[wrap_i64 (x:=(z:Int)+(S.r0:Int)) (by omega) (by omega),wrap_i64 (x:=(z:Int)+(S.r0:Int)-1) (by omega) (by omega)];rw[show(z:Int)+(S.r0:Int)-1=((z+S.r0-1:Nat):Int) by omega,show Int.tdiv ((z+S.r0-1:Nat):Int) (S.r0:Int)=(((z+S.r0-1) / S.r0:Nat):Int) from rfl];have:(z+S.r0-1) / S.r0=nparts S.r0 z:=rfl;rw[this,wrap_i64 (by omega) (by omega)]
 rw[eM];refine zg (fun hq=>?_) (fun hq=>?_)
 ·have hq:=bne_iff_ne.1 hq;rw[if_pos (.inr (by omega))];exact⟨(none,0,0),rfl,Owni.nil _ _ _,he06⟩
 have hq:=bne_eq_false_iff_eq.1 hq;rw[if_neg (by omega)];refine zS fun w7 he7 _ _=>?_;refine zn (l:=.slc) 1 y ((hb2.ext he26).ext he7) (by rfl) ?_;exact⟨y,rfl,(hok2.ext he26).ext he7,he06.trans he7⟩
def NoB (w:World) (k:Nat):Prop:=∀ o,w.heap[k]?=some o->∀ c fz,o≠.cells c 5 fz
theorem NoB.at_ {w w':World} {k:Nat} (h:NoB w k) (e:w'.heap[k]?=w.heap[k]?):NoB w' k:=fun o ho=>h o (e▸ho)
theorem zfe {w:World} {k:Nat} {cs:List Value} {t:TypeId} (h:Blk w k cs t) (ht:t≠5):NoB w k:=fun o ho c fz e=>by
 have h':w.heap[k]?=some _:=h;rw[h']at ho;injection ho with ho
 rw[<- ho]at e;injection e with _ e2 _
 exact ht e2
theorem zpg {α:Type} {E:Enc α} {w:World} {B n c:Nat} {A:Option Addr} {xs:List α} {e:TypeId} (h:Owni E e w B A n c xs) (he:e≠5):∀ q,orow A=some q->NoB w q:=fun q hq o ho c' fz ee=>by
 rcases h.2 with ⟨hv,_⟩|⟨g,cap,cur,hv,_,hg,_⟩
 ·injection hv with hv;subst hv;cases hq
 ·injection hv with hv
  subst hv;have:g=q:=Option.some.inj hq;subst this;rw[hg]at ho;injection ho with ho
  rw[<- ho]at ee;injection ee with _ e2 _
  exact he e2
def RSp (b db:Nat) (S:Spa) (F Fd:Nat->Prop) (x:SLC) (hb hr nb nr:Nat) (m:MkL):WP:=fun w=>SpM w b db S F Fd x hb hr nb nr m
def Two (b n r1 r2:Nat):WP:=fun w=>Blk w r1 [.pointer (some ⟨b,0,none⟩)] 24/\Blk w r2 [.int .u32 (n:Int)] 39
theorem zj5 {N0 l n r1 r2:Nat} {J:(Nat->Prop)->Nat->WP} {E:(Nat->Prop)->WP} {Q:Nat->Prop} {wc:World} (hn:n<4294967296) (hF0:∀ k,F k->k<N0) (hN0:N0<=wc.heap.size) (hQ1:Q r1) (hQB:∀ k,Q k->NoB wc k) (hQN:∀ k,Q k->N0<=k)
  (hJ0:J Q 0 wc) (hQc:∀ k,Q k->k<wc.heap.size) (hR0:Two b n r1 r2 wc) (hJR:∀ V i w',J V i w'->RSp b db S F Fd x hb hr nb nr m w')
  (hJ:∀ (V V':Nat->Prop) i w' w'',J V i w'->Only V w' w''->(∀ k,V' k->V k\/w'.heap.size<=k)->RSp b db S F Fd x hb hr nb nr m w''->J V' i w'')
  (hY:∀ (V:Nat->Prop) i w' (h:i<(qU (yb S n)).length),J V i w'->(∀ k,V k->k<w'.heap.size)->(∀ k,V k->NoB w' k)->jk prog l (qU (yb S n))[i] w' fun v w''=>w'.heap.size<=w''.heap.size/\(∀ k,V k->w''.heap[k]?=w'.heap[k]?)/\
   ((v=.bool true/\RSp b db S F Fd x hb hr nb nr m w''/\J V (i+1) w'')\/(v=.bool false/\E V w''))):
  Calls prog 159 #[.func (.yield l) #[] #[],.pointer (some ⟨r1,0,none⟩),.pointer (some ⟨r2,0,none⟩)] wc (Ret fun _ w'=>∃ V:Nat->Prop,(J V (qU (yb S n)).length w'/\(∀ k,V k->Q k\/wc.heap.size<=k)/\True)\/E V w'):=by
 obtain⟨k1,k2⟩:=hR0;have hS:=hJR _ _ _ hJ0;have hS':SpM wc b db S F Fd x hb hr nb nr m:=hS;obtain⟨q0,q1,q2,q3⟩:=xO hS'.dims;have hRst:∀ {w1 w2:World},RSp b db S F Fd x hb hr nb nr m w1->Ext w1 w2->RSp b db S F Fd x hb hr nb nr m w2:=fun h e=>SpM.ext h e;apply zmf;unfold S159;refine zo (x:=some ⟨b,0,none⟩) k1 (by rfl) (zo (x:=(n:Int)) k2 (by rfl) ?_);refine zb (zhl hS' hn) ?_;rintro _ w1 ⟨y,rfl,hok,he1⟩;refine⟨(((qd S n).1:Int),y,(qd S n).2.2,()),rfl,?_⟩;dsimp only
 -- a yield, whatever comes behind
 have yld:∀ {V:Nat->Prop} {i:Nat} {w2:World} {p:ByteArray×Int} {K:Bool->WP},J V i w2->(∀ k,V k->k<w2.heap.size)->(∀ k,V k->NoB w2 k)->(yb S n)[i]?=some p->(∀ w3,w2.heap.size<=w3.heap.size->(∀ k,V k->w3.heap[k]?=w2.heap[k]?)->RSp b db S F Fd x hb hr nb nr m w3->J V (i+1) w3->K true w3)->(∀ w3,E V w3->K false w3)->
   yG prog (.func (.yield l) #[] #[]) [.string p.1,.int .i64 p.2] (.one (.one .bool)) K w2:=by
  intro V i w2 p K hJ2 hV2 hB2 hp hK1 hK2;have hidx:i<(qU (yb S n)).length:=by rw[x6];exact(List.getElem?_eq_some_iff.1 hp).1
  refine .inr ⟨l,rfl,?_⟩;have hy:=hY V i w2 hidx hJ2 hV2 hB2;rw[zk9 hidx hp]at hy;obtain⟨fn,tmps,asg,bd,hy1,hy2⟩:=hy;refine⟨fn,tmps,asg,bd,hy1,RoundIn.mono hy2 ?_⟩;rintro(v|cc|_) w6 hvv
  ·obtain⟨a1,a2,⟨rfl,a3,a4⟩|⟨rfl,a3⟩⟩:=hvv
   ·exact⟨true,rfl,hK1 w6 a1 a2 a3 a4⟩
   ·exact⟨false,rfl,hK2 w6 a3⟩
  ·exact hvv
  ·exact hvv
 have he1s:=he1.size
 let V1:Nat->Prop:=fun q=>Q q\/orow y.1=some q
 have hV1n:∀ q,V1 q->Q q\/wc.heap.size<=q:=fun q hq=>by
  rcases hq with hq|hq
  ·exact .inl hq
  ·exact .inr (hok.row q hq)
 have hV1l:∀ q,V1 q->q<w1.heap.size:=fun q hq=>by
  rcases hq with hq|hq
  ·exact Nat.lt_of_lt_of_le (hQc q hq) he1s
  ·exact hok.yg q hq
 have hV1b:∀ q,V1 q->NoB w1 q:=fun q hq=>by
  rcases hq with hq|hq
  ·exact(hQB q hq).at_ (he1.block q (hQc q hq))
  ·exact zpg hok (by decide) q hq
 have hJ1:J V1 0 w1:=hJ _ _ _ _ _ hJ0 (Only.zz he1) hV1n (hRst hS he1);refine zg (fun hq=>?_) (fun hq=>?_)
 ·have hq:=bne_iff_ne.1 hq;have ep:yb S n=[(ByteArray.empty,(qd S n).2.2)]:=by unfold yb;rw[if_pos hq]
  refine yld (p:=(ByteArray.empty,(qd S n).2.2)) hJ1 hV1l hV1b (by rw[ep];rfl) (fun w3 _ _ _ hJ3=>⟨V1,.inl ⟨?_,hV1n,trivial⟩⟩) (fun w3 hE=>⟨V1,.inr hE⟩);rw[x6,ep];exact hJ3
 have hq:=bne_eq_false_iff_eq.1 hq;have ep:yb S n=goS S (qd S n).1 (qd S n).2.1:=by unfold yb;rw[if_neg (fun hh=>hh hq)]
 have hyn:=hok.len;have hkn:∀ k∈(qd S n).2.1,k<4294967296:=by
  intro k hk;have hd:=hS'.dims.n;unfold qd at hk;split at hk
  ·cases hk
  ·rename_i h0;have h0:(S.get n).2=0:=by omega
   have:=zdX h0;split at hk
   ·cases hk
   ·split at hk
    ·cases hk
    ·split at hk
     ·cases hk
     ·have:=this.2 k hk;omega
 have hz65:(qd S n).1<=65536:=by
  unfold qd;split
  ·omega
  ·split
   ·omega
   ·split
    ·omega
    ·split
     ·omega
     ·rename_i hh;omega
 have hle:=hok.le;generalize hks:(qd S n).2.1=ks at *;generalize hsz0:(qd S n).1=z0 at *;refine zE (fun y' w'=>∃ (j zj:Nat) (V:Nat->Prop),j<=y.2.1/\y'=((zj:Int),(j:Int),())/\zj<=65536/\(yb S n).drop j=goS S zj (ks.drop j)/\j<=(yb S n).length/\J V j w'/\(∀ q,V1 q->V q)/\(∀ q,V q->Q q\/wc.heap.size<=q)/\(∀ q,V q->q<w'.heap.size)/\(∀ q,V q->NoB w' q)/\(∀ q,V1 q->w'.heap[q]?=w1.heap[q]?)/\w1.heap.size<=w'.heap.size) (fun y'=>(y.2.1-y'.2.1).toNat)
  ⟨0,z0,V1,by omega,rfl,hz65,by rw[ep];rfl,by omega,hJ1,fun q h=>h,hV1n,hV1l,hV1b,fun _ _=>rfl,Nat.le_refl _⟩ ?_
 rintro _ w2 ⟨j,zj,V,hj,rfl,hzj,hdrop,hjl,hJ2,hVV,hVn,hVl,hVb,hkp,hs12⟩;dsimp only;have hS2:=hJR _ _ _ hJ2;have hS2':SpM w2 b db S F Fd x hb hr nb nr m:=hS2;have k1w:=(k1.ext he1).at_ (hkp r1 (.inl hQ1));have hslj:Sli (zx .u32) w2 y.1 y.2.1 ks:=hok.sl.congr (fun a ha=>hkp _ (.inr (by rw[ha];rfl)))
 by_cases hlt:j<y.2.1
 ·refine zf (decide_eq_true (by omega)) ?_;refine z7 hslj (by omega) (by omega) ?_;rw[Int.toNat_natCast];have eg:ks[j]?=some (ks.getD j 0):=by rw[getD_eq_getElem?_getD,List.getElem?_eq_getElem (by omega)];rfl
  have hk32:=hkn _ (mem_of_getElem? eg);have edrop:ks.drop j=ks.getD j 0::ks.drop (j+1):=by
   obtain⟨h1,h2⟩:=List.getElem?_eq_some_iff.1 eg;rw[List.drop_eq_getElem_cons h1,h2]
  rw[edrop]at hdrop;generalize ks.getD j 0=k at *;refine zo (x:=some ⟨b,0,none⟩) k1w (by rfl) ?_;refine zb (qO hS2' (k:=0) (by omega) (by omega)) ?_;rintro _ w3 ⟨rfl,he3⟩;refine⟨_,rfl,?_⟩;rw[q0];refine zo (x:=some ⟨b,0,none⟩) (k1w.ext he3) (by rfl) ?_;refine zb (v8 (hS2'.ext he3) hk32) ?_;rintro _ w4 ⟨y2,rfl,hok4,he4⟩;refine⟨(pgT (S.get k).1 y2,(S.get k).2,()),rfl,?_⟩;refine yd (vs:=pgV (S.get k).1 y2) (by rfl) (jo _ _) (fun r13 w5 hb5 he5 hr5=>?_) (by rfl);have he25:=(he3.trans he4).trans he5;have h25:=he25.size;have hkl:(S.get k).2=0->(S.get k).1.2.1.length<=1024:=fun h0=>(zdX h0).1;have hy2n:=hok4.len;have ewant:(if ((S.r0:Nat):Int)<(zj:Int) then ((S.r0:Nat):Int) else (zj:Int))=((min zj S.r0:Nat):Int):=by split<;>omega
  rw[ewant];dsimp only;refine yv (fun y' w'=>y'=(zbC S (min zj S.r0) k,())/\w'=w5) ?_ (fun J' hJ'=>?_);rotate_left
  ·unfold zbC at hJ';refine zg (fun hq=>?_) (fun hq=>?_)
   ·have hq:=beq_iff_eq.1 hq;refine zO (((S.get k).1.1.toNat:Nat):Int) hb5 (by rfl) ?_;refine zg (fun h7=>?_) (fun h7=>?_)
    ·have h7:=bne_iff_ne.1 h7;exact hJ' _ _ ⟨by rw[if_pos ⟨hq,.inl (fun e=>by rw[e]at h7;exact h7 rfl)⟩],rfl⟩
    have h7:=bne_eq_false_iff_eq.1 h7;have h7':(S.get k).1.1=7:=by
     apply UInt8.toNat_inj.1;show _=7;omega
    refine zn (l:=.slc) 1 y2 hb5 (by rfl) ?_;refine zg (fun h8=>?_) (fun h8=>?_)
    ·have h8:=of_decide_eq_true h8;exact hJ' _ _ ⟨by rw[if_pos ⟨hq,.inr (.inl (by omega))⟩],rfl⟩
    have h8:=of_decide_eq_false h8;refine zn 2 (S.get k).1.2.2 hb5 (by rfl) ?_;refine zg (fun h9=>?_) (fun h9=>?_)
    ·have h9:=bne_iff_ne.1 h9;exact hJ' _ _ ⟨by rw[if_pos ⟨hq,.inr (.inr (by omega))⟩],rfl⟩
    have h9:=bne_eq_false_iff_eq.1 h9;exact hJ' _ _ ⟨by rw[if_neg (by rintro⟨_,e|e|e⟩;exact e h7';omega;omega)],rfl⟩
   ·have hq:¬(S.get k).2=0:=beq_eq_false_iff_ne.1 hq;exact hJ' _ _ ⟨by rw[if_neg (fun e=>hq e.1)],rfl⟩
  rintro y' w6 ⟨rfl,hw6⟩;rw[hw6];dsimp only
  let V2:Nat->Prop:=fun q=>V q\/q=r13
  have hr13:w2.heap.size<=r13:=Nat.le_trans (he3.trans he4).size hr5;have hV2n:∀ q,V2 q->V q\/w2.heap.size<=q:=fun q hq=>by
   rcases hq with hq|rfl
   ·exact .inl hq
   ·exact .inr hr13
  have hJ5:J V2 j w5:=hJ _ _ _ _ _ hJ2 (Only.zz he25) hV2n (hRst hS2 he25);have hV2l:∀ q,V2 q->q<w5.heap.size:=fun q hq=>by
   rcases hq with hq|rfl
   ·exact Nat.lt_of_lt_of_le (hVl q hq) h25
   ·exact hb5.lt
  have hV2b:∀ q,V2 q->NoB w5 q:=fun q hq=>by
   rcases hq with hq|rfl
   ·exact(hVb q hq).at_ (he25.block q (hVl q hq))
   ·exact zfe hb5 (by decide)
  have hV2Q:∀ q,V2 q->Q q\/wc.heap.size<=q:=fun q hq=>by
   rcases hV2n q hq with e|e
   ·exact hVn q e
   ·exact .inr (by omega)
  have hkp5:∀ q,V1 q->w5.heap[q]?=w1.heap[q]?:=fun q hq=>(he25.block q (hVl q (hVV q hq))).trans (hkp q hq);have hget0:∀ p r,(yb S n).drop j=p::r->(yb S n)[j]?=some p/\(yb S n).drop (j+1)=r/\j+1<=(yb S n).length:=fun p r hh=>by
   have h1:((yb S n).drop j)[0]?=some p:=by rw[hh];rfl
   rw[List.getElem?_drop,Nat.add_zero]at h1;refine⟨h1,?_,(List.getElem?_eq_some_iff.1 h1).1⟩;have h2:=congrArg (List.drop 1) hh;rw[drop_drop]at h2
   simpa using h2
  refine zg (fun hq=>?_) (fun hq=>?_)
  ·have hq:=bne_iff_ne.1 hq;rw[goS,if_pos hq]at hdrop;obtain⟨g1,g2,g3⟩:=hget0 _ _ hdrop;have hl1:(yb S n).length=j+1:=by
    have:=congrArg List.length hdrop;rw[length_drop,length_singleton]at this;omega
   refine yld (p:=(ByteArray.empty,zbC S (min zj S.r0) k)) hJ5 hV2l hV2b g1 (fun w7 _ _ _ hJ7=>⟨V2,.inl ⟨?_,hV2Q,trivial⟩⟩) (fun w7 hE=>⟨V2,.inr hE⟩);rw[x6,hl1];exact hJ7
  have hq:=bne_eq_false_iff_eq.1 hq;rw[goS,if_neg (fun hh=>hh hq)]at hdrop;obtain⟨g1,g2,g3⟩:=hget0 _ _ hdrop;refine zn 2 (S.get k).1.2.2 hb5 (by rfl) ?_;refine yld (p:=((S.get k).1.2.2,0)) hJ5 hV2l hV2b g1 (fun w7 a1 a2 a3 a4=>?_) (fun w7 hE=>zf (by rfl) ⟨V2,.inr hE⟩);refine zd (by rfl) ?_;have w1':wrap .i64 ((zj:Int)-((min zj S.r0:Nat):Int))=((zj-min zj S.r0:Nat):Int):=by rw[wrap_i64 (by omega) (by omega)];omega
  have w2':wrap .i64 ((j:Int)+1)=((j+1:Nat):Int):=by rw[wrap_i64 (by omega) (by omega)];rfl
  rw[w1',w2'];refine⟨⟨j+1,zj-min zj S.r0,V2,by omega,rfl,by omega,g2,g3,a4,fun q hq=>.inl (hVV q hq),hV2Q,fun q hq=>Nat.lt_of_lt_of_le (hV2l q hq) a1,fun q hq=>(hV2b q hq).at_ (a2 q hq),fun q hq=>(a2 q (.inl (hVV q hq))).trans (hkp5 q hq),by omega⟩,by omega⟩
 ·obtain rfl:j=y.2.1:=by omega
  refine zd (decide_eq_false (by omega)) ?_;rw[drop_of_length_le (l:=ks) (by omega),goS]at hdrop;have hl1:(yb S n).length=y.2.1:=by
   have:=congrArg List.length hdrop;rw[length_drop,List.length_nil]at this;omega
  refine⟨V,.inl ⟨?_,hVn,trivial⟩⟩;rw[x6,hl1];exact hJ2
theorem zis (h:SpM w b db S F Fd x hb hr nb nr m) {n:Nat} (hn:n<4294967296):
  Calls prog 129 #[.pointer (some ⟨b,0,none⟩),.int .u32 (n:Int)] w (Ret fun v w'=>∃ (Q:Nat->Prop) (R0:WP),zjJ prog v (qU (yb S n)) (RSp b db S F Fd x hb hr nb nr m) Q R0 (fun _=>True) NoB/\R0 w'/\(∀ w1 w2,R0 w1->Ext w1 w2->R0 w2)/\(∀ k,Q k->k<w'.heap.size)/\(∀ k,Q k->w.heap.size<=k)/\Ext w w'):=by
 have hFlt:=h.lt;apply zlU;unfold S129;refine zq fun r1 w1 hb1 he1 hr1 hz1=>?_;refine zq fun r2 w2 hb2 he2 hr2 hz2=>?_;have he:=he1.trans he2;have hs1:=he1.size;refine⟨fun k=>k=r1\/k=r2,Two b n r1 r2,?_,⟨hb1.ext he2,hb2⟩,fun w1 w2 h1 h2=>⟨h1.1.ext h2,h1.2.ext h2⟩,fun k hk=>by rcases hk with rfl|rfl<;>omega,fun k hk=>by rcases hk with rfl|rfl<;>omega,he⟩;refine⟨_,_,rfl,by kernel_rfl,fun l J E wc hJ0 hQc hR0c hJR hJs hEs hY=>?_⟩;exact zj5 (N0:=w.heap.size) hn hFlt (by have:=hQc r1 (.inl rfl);omega) (.inl rfl) (fun k hk=>by rcases hk with rfl|rfl;exact zfe hR0c.1 (by decide);exact zfe hR0c.2 (by decide)) (fun k hk=>by rcases hk with rfl|rfl<;>omega) hJ0 hQc hR0c hJR hJs hY
end V
/- Contracts of the package blob:Get,Parts. -/
namespace V
open Go Go.Proofs Go.RowKit Crc
variable {w w':World} {b db:Nat} {S:Spa} {F Fd:Nat->Prop} {x:SLC} {hb hr nb nr:Nat} {m:MkL}
def BdV (V:Nat->Prop) (w:World) (b:Nat) (l:List UInt8):Prop:=∃ p v,(p=.pointer none\/p=.pointer (some ⟨b,0,none⟩))/\w.heap[b]?=some (.cells #[p,v] 182 (0,0))/\w.ownsRowF b 5 1 v (Lib.byteCells l).length (Lib.byteCells l)/\v.ownBlock≠some b/\∀ j,v.ownBlock=some j->¬V j
theorem BdV.is {V:Nat->Prop} {w:World} {b:Nat} {l:List UInt8} (h:BdV V w b l):Lib.IsBuilderF 182 5 b b (Lib.byteCells l) w:=by
 obtain⟨p,v,rfl|rfl,h1,h2,h3,_⟩:=h
 ·exact .inl ⟨Nat.le_refl _,v,h1,h2,h3⟩
 ·exact .inr ⟨Nat.le_refl _,v,h1,h2,h3⟩
theorem BdV.only {V V' G:Nat->Prop} {w w':World} {b:Nat} {l:List UInt8} (h:BdV V w b l) (hO:Only G w w') (hb:¬G b) (hG:∀ j,G j->V j\/w.heap.size<=j\/j<b) (hV:∀ j,V' j->V j\/w.heap.size<=j):BdV V' w' b l:=by
 obtain⟨p,v,hp,h1,h2,h3,h4⟩:=h;have hlt:=(Array.getElem?_eq_some_iff.1 h1).1;refine⟨p,v,hp,(hO.2.2.2.2 b hlt hb).trans h1,?_,h3,fun j hj hv=>?_⟩
 ·refine⟨h2.1,?_⟩;rcases h2.2 with hn|⟨g,cap,cur,fz,rfl,hbb,hgg,rest⟩
  ·exact .inl hn
  ·refine .inr ⟨g,cap,cur,fz,rfl,hbb,?_,rest⟩;have hgl:=(Array.getElem?_eq_some_iff.1 hgg).1;rw[hO.2.2.2.2 g hgl (fun hh=>by
    rcases hG g hh with e|e|e
    ·exact h4 g rfl e
    ·omega
    ·omega)]
   exact hgg
 ·rcases hV j hv with e|e
  ·exact h4 j hj e
  ·have:=(World.ownsRowF.lt h2 j hj).2;omega
theorem BdV.new {V:Nat->Prop} {w:World} {b:Nat} (h:Blk w b [.pointer none,.slice none 0 0] 182):BdV V w b []:=
 ⟨_,_,.inl rfl,h,World.ownsRowF_nil w b _ 1,(fun e=>by cases e),(fun j hj=>by cases hj)⟩
theorem BdV.lt {V:Nat->Prop} {w:World} {b:Nat} {l:List UInt8} (h:BdV V w b l):b<w.heap.size:=by
 obtain⟨p,v,hp,h1,_⟩:=h;exact(Array.getElem?_eq_some_iff.1 h1).1
theorem zj6 {V:Nat->Prop} {w:World} {b:Nat} {l:List UInt8} (h:BdV V w b l) (s:ByteArray) (hl:l.length+s.size<=140737488355000) (hV:∀ k,V k->k<w.heap.size/\k≠b/\NoB w k):
  Calls prog 101 #[.pointer (some ⟨b,0,none⟩),.string s] w (Ret fun v w'=>v=.tuple #[.int .i64 s.size,.nilIface]/\BdV V w' b (l++B s)/\Below b w w'/\∀ k,k<w.heap.size->k≠b->NoB w k->w'.heap[k]?=w.heap[k]?):=
 (Tryz.Builder_WriteString_k b b (Lib.byteCells l) s w h.is (by rw[Lib.byteCells_length];omega) (Nat.le_of_lt h.lt)).mono (by
  rintro e w' ⟨rfl,⟨h1,v,h2,h3,h4⟩,hB,hK⟩
  have keep:∀ k,k<w.heap.size->k≠b->NoB w k->w'.heap[k]?=w.heap[k]?:=fun k h1 h2 h3=>by
   have e:=Array.getElem?_eq_getElem h1
   rw[e]
   exact hK k _ e (fun e'=>h2 (Option.some.inj e')) (fun c fz=>h3 _ e c fz)
  refine⟨rfl,⟨_,v,.inr rfl,h2,?_,h4,fun j hj hv=>?_⟩,hB,keep⟩
  ·have ee:Lib.byteCells (l++B s)=Lib.byteCells l++Lib.strCells s:=by simp[Lib.byteCells,strCells_eq,bV]
   rw[ee]
   exact h3
  ·obtain⟨v1,v2,v3⟩:=hV j hv
   rcases h3.2 with ⟨hn,_⟩|⟨g,cap,cur,fz,hvv,_,hgg,_⟩
   ·subst hn;cases hj
   ·subst hvv
    have:g=j:=Option.some.inj hj
    subst this
    rw[keep g v1 v2 v3]at hgg
    exact v3 _ hgg cur fz rfl)
theorem zit {V:Nat->Prop} {w:World} {b:Nat} {l:List UInt8} (h:BdV V w b l):
  Calls prog 103 #[.pointer (some ⟨b,0,none⟩)] w (Ret fun v w'=>v=.string (mkB l)/\Below b w w'/\∀ k,k<w.heap.size->k≠b->NoB w k->w'.heap[k]?=w.heap[k]?):=
 (Tryz.Builder_String_any_k b b l w h.is (Nat.le_of_lt h.lt)).mono (by
  rintro e w' ⟨rfl,_,hB,hK⟩
  refine⟨rfl,hB,fun k h1 h2 h3=>?_⟩
  have e:=Array.getElem?_eq_getElem h1
  rw[e]
  exact hK k _ e (fun e'=>h2 (Option.some.inj e')) (fun c fz=>h3 _ e c fz))
def zbD (S:Spa) (n:Nat):ByteArray×Int:=match (yb S n).find? (fun p=>decide (p.2≠0)) with
 |some p=>(ByteArray.empty,p.2)
 |none=>(mkB ((yb S n).flatMap fun p=>B p.1),0)
theorem zj7 {l:List (ByteArray×Int)} {i:Nat} {p:ByteArray×Int} (hp:l[i]?=some p) (hne:p.2≠0) (hno:∀ (j:Nat) (q:ByteArray×Int),j<i->l[j]?=some q->q.2=0):l.find? (fun p=>decide (p.2≠0))=some p:=by
 induction l generalizing i with
 |nil=>simp at hp
 |cons a t ih=>
  cases i with
  |zero=>
   simp only [List.getElem?_cons_zero,Option.some.injEq]at hp;subst hp;rw[List.find?_cons,decide_eq_true hne]
  |succ i=>
   have h0:=hno 0 a (by omega) rfl;rw[List.find?_cons,decide_eq_false (fun e=>e h0)];exact ih (i:=i) (by simpa using hp) (fun j q hj hq=>hno (j+1) q (by omega) (by simpa using hq))
theorem zfL {l:List (ByteArray×Int)} (hno:∀ (j:Nat) (q:ByteArray×Int),l[j]?=some q->q.2=0):l.find? (fun p=>decide (p.2≠0))=none:=by
 rw[List.find?_eq_none];intro p hp;obtain⟨j,hj,e⟩:=List.mem_iff_getElem.1 hp;have:=hno j p (by rw[List.getElem?_eq_getElem hj,e]);simp[this]
def q8 (S:Spa) (n i:Nat):List UInt8:=((yb S n).take i).flatMap fun p=>B p.1
theorem zj8 (h:SpM w b db S F Fd x hb hr nb nr m) {n:Nat} (hn:n<4294967296) (hlen:(yb S n).length<=100000) (hsz0:∀ p∈yb S n,p.1.size<=5000):
  Calls prog 88 #[.pointer (some ⟨b,0,none⟩),.int .u32 (n:Int)] w (Ret fun v w'=>v=.tuple #[.string (zbD S n).1,.int .i64 (zbD S n).2]/\Ext w w'):=by
 have hFlt:=h.lt;have hbl:∀ i,(q8 S n i).length<=i*5000:=by
  intro i
  induction i with
  |zero=>simp[q8]
  |succ i ih=>
   unfold q8 at ih ⊢;rw[take_add_one];rw[flatMap_append,length_append];cases hp:(yb S n)[i]? with
   |none=>rw[Option.toList_none,List.flatMap_nil,List.length_nil,Nat.add_zero];exact Nat.le_trans ih (Nat.mul_le_mul_right _ (Nat.le_succ i))
   |some p=>
    have:=hsz0 p (mem_of_getElem? hp);rw[yp]at this;rw[Option.toList_some,flatMap_cons,List.flatMap_nil,append_nil,Nat.add_mul,Nat.one_mul];exact Nat.add_le_add ih (by omega)
 apply zoL;unfold S88;refine zq fun r1 w1 hb1 he1 hr1 hz1=>?_;refine zq fun r2 w2 hb2 he2 hr2 hz2=>?_;refine zd (by rfl) ?_;refine zq fun r5 w3 hb5 he3 hr5 hz5=>?_;have hb1:=(hb1.ext he2).ext he3;have hb2:=hb2.ext he3;have he:=(he1.trans he2).trans he3;refine zb (zis (h.ext he) hn) ?_;rintro v w4 ⟨Q,R0,hit,hR0,hRx,hQl,hQ,he4⟩;refine⟨v,rfl,?_⟩;have he04:=he.trans he4;have hb1:=hb1.ext he4;have hb2:=hb2.ext he4;have hb5:=hb5.ext he4;have h34:=he4.size;have hs1:=he1.size;have h04:=he04.size;have hsame:∀ {w' w'':World},xc w4.heap.size (w4.heap.size+1) w' w''->RSp b db S F Fd x hb hr nb nr m w'->RSp b db S F Fd x hb hr nb nr m w'':=fun hs hS=>
  SpM.ql hS hs (fun hf=>by have:=hFlt _ hf;omega) (fun hf=>by have:=hFlt _ hf;omega)
 have hRb:∀ {w' w'':World},Only (fun k=>r5<=k) w' w''->RSp b db S F Fd x hb hr nb nr m w'->RSp b db S F Fd x hb hr nb nr m w'':=fun hO hS=>SpM.only hS hO (fun j hj hk=>by have:=hFlt _ hj;have:r5<=j:=hk;omega);have hel:∀ i,i<(yb S n).length->(yb S n)[i]?=some ((yb S n).getD i (ByteArray.empty,0)):=fun i hi=>by rw[getD_eq_getElem?_getD,List.getElem?_eq_getElem hi];rfl
 refine zg2 (fun i=>(((yb S n).getD i (ByteArray.empty,0)).1,((yb S n).getD i (ByteArray.empty,0)).2,())) ?_
  (fun V i w'=>RSp b db S F Fd x hb hr nb nr m w'/\Blk w' r1 [.string ByteArray.empty] 9/\Blk w' r2 [.int .i64 0] 34/\BdV (fun k=>V k\/k=w4.heap.size\/k=w4.heap.size+1) w' r5 (q8 S n i)/\(∀ j q,j<i->(yb S n)[j]?=some q->q.2=0)/\Ext w w'/\(∀ k,V k->r5<k)/\w4.heap.size<=w'.heap.size)
  (fun V c w'=>c=.ret/\∃ e:Int,Blk w' r1 [.string ByteArray.empty] 9/\Blk w' r2 [.int .i64 e] 34/\zbD S n=(ByteArray.empty,e)/\Ext w w'/\(∀ k,V k->r5<k)/\w4.heap.size<=w'.heap.size)
  hit hQl (fun w' w'' hs hS=>hsame hs hS) (fun _ _ _ _=>trivial) ?_ ?_ ?_ ?_ ?_ ?_ ?_ ?_
 ·intro i hi;have hi':i<(yb S n).length:=by rw[x6]at hi;exact hi
  simp[qU,hi']
 ·intro V i w' hI;exact hI.1
 ·rintro V V' i w' w'' ⟨g1,g2,g3,g4,g5,g6,g7,g8⟩ hO hV hR;have hno:∀ k,k<=r5->¬(V k\/k=w4.heap.size\/k=w4.heap.size+1):=fun k hk hh=>by
   rcases hh with hh|hh|hh
   ·have:=g7 k hh;omega
   ·omega
   ·omega
  refine⟨hR,g2.only hO (hno r1 (by omega)),g3.only hO (hno r2 (by omega)),?_,g5,Only.ext g6 hO (fun j hj=>?_),fun k hk=>?_,?_⟩
  ·refine BdV.only g4 hO (hno r5 (by omega)) (fun j hj=>.inl hj) (fun j hj=>?_);rcases hj with hj|hj
   ·rcases hV j hj with e|e
    ·exact .inl (.inl e)
    ·exact .inr e
   ·exact .inl (.inr hj)
  ·rcases hj with hj|rfl|rfl
   ·have:=g7 j hj;omega
   ·omega
   ·omega
  ·rcases hV k hk with e|e
   ·exact g7 k e
   ·omega
  ·have:=hO.2.2.2.1;omega
 ·rintro V V' c w' w'' ⟨rfl,e,g1,g2,g3,g6,g7,g8⟩ hO hV;have hno:∀ k,k<=r5->¬(V k\/k=w4.heap.size\/k=w4.heap.size+1):=fun k hk hh=>by
   rcases hh with hh|hh|hh
   ·have:=g7 k hh;omega
   ·omega
   ·omega
  refine⟨rfl,e,g1.only hO (hno r1 (by omega)),g2.only hO (hno r2 (by omega)),g3,Only.ext g6 hO (fun j hj=>?_),fun k hk=>?_,?_⟩
  ·rcases hj with hj|rfl|rfl
   ·have:=g7 j hj;omega
   ·omega
   ·omega
  ·rcases hV k hk with e|e
   ·exact g7 k e
   ·omega
  ·have:=hO.2.2.2.1;omega
 ·intro o;have hx:Ext w4 ((w4.alloc (.deferred (some []))).alloc o):=((Ext.refl w4).alloc _).alloc _;exact⟨(h.ext he04).ext hx,hb1.ext hx,hb2.ext hx,BdV.new (hb5.ext hx),fun j q hj=>by omega,he04.trans hx,fun k hk=>by have:=hQ k hk;omega,hx.size⟩
 ·intro o;exact hRx _ _ hR0 (((Ext.refl w4).alloc _).alloc _)
 ·rintro V i hi w' G N jump hI hsz hV hVb hG;have hi':i<(yb S n).length:=by rw[x6]at hi;exact hi
  have ei:=hel i hi';have hpz:=hsz0 _ (mem_of_getElem? ei);generalize (yb S n).getD i (ByteArray.empty,0)=p at *;refine hG _ w' hI (Nat.le_refl _) (fun _ _=>rfl) ?_;rintro w2' ⟨g1,g2,g3,g4,g5,g6,g7,g8⟩ hs2 hk2 hNC hN' hJ';dsimp only;refine zg (fun hq=>?_) (fun hq=>?_)
  ·have hq:=bne_iff_ne.1 hq;refine zZ g2 (by show 0<1;omega) ?_;have a1:=g2.set 0 (.string (ByteArray.mk #[]));have a2:=g3.other (p:=⟨r1,0,none⟩) (by show r1≠r2;omega) (.string (ByteArray.mk #[]));refine zZ a2 (by show 0<1;omega) ?_;have a3:=a1.other (p:=⟨r2,0,none⟩) (by show r2≠r1;omega) (.int .i64 p.2);have a4:=a2.set 0 (.int .i64 p.2);refine hJ' .ret _ ⟨rfl,p.2,a3,a4,?_,(g6.set (p:=⟨r1,0,none⟩) (by show w.heap.size<=r1;omega) _).set (p:=⟨r2,0,none⟩) (by show w.heap.size<=r2;omega) _,g7,by simp;omega⟩ (by simp) (fun k hk=>?_)
   ·unfold zbD;rw[zj7 ei hq (fun j q hj hq'=>g5 j q hj hq')]
   ·have hkr:k≠r1/\k≠r2:=by
     rcases hk with rfl|rfl|hk
     ·omega
     ·omega
     ·have:=g7 k hk;omega
    rw[Below.heap_setCell _ _ _ _ (by show k≠r2;exact hkr.2),Below.heap_setCell _ _ _ _ (by show k≠r1;exact hkr.1)]
  ·have hq:=bne_eq_false_iff_eq.1 hq;have hbli:=hbl i;have hV2:∀ k,(V k\/k=w4.heap.size\/k=w4.heap.size+1)->k<w2'.heap.size/\k≠r5/\NoB w2' k:=fun k hk=>by
    rcases hk with hk|hk
    ·obtain⟨v1,v2,v3⟩:=hV k hk;exact⟨by omega,by have:=g7 k hk;omega,(hVb k hk).at_ (hk2 k v2 v3)⟩
    ·exact⟨by omega,by omega,fun o ho c fz=>hNC k hk o ho c _ fz⟩
   refine zb (zj6 g4 p.1 (by omega) hV2) ?_;rintro _ w5 ⟨rfl,g4',hB,hK⟩;refine⟨(((p.1.size:Nat):Int),.nilIface,()),rfl,?_⟩;have oB:Only (fun k=>r5<=k) w2' w5:=⟨hB.os,hB.tape,hB.output,hB.size,fun k _ hk=>hB.block k (by have:¬r5<=k:=hk;omega)⟩;refine hN' w5 (hRb oB g1) ⟨hRb oB g1,g2.only oB (by show ¬r5<=r1;omega),g3.only oB (by show ¬r5<=r2;omega),?_,fun j q hj hq'=>?_,Only.ext g6 oB (fun j hj=>by have:r5<=j:=hj;omega),g7,by have:=hB.size;omega⟩ hB.size (fun k hk=>?_)
   ·have e1:q8 S n (i+1)=q8 S n i++B p.1:=by
     unfold q8;rw[take_add_one,ei,flatMap_append];simp
    rw[e1];exact g4'
   ·by_cases hji:j=i
    ·subst hji;rw[ei]at hq';injection hq' with hq'
     rw[<- hq'];exact hq
    ·exact g5 j q (by omega) hq'
   ·have hk':V k\/k=w4.heap.size\/k=w4.heap.size+1:=by
     rcases hk with e|e|e
     ·exact .inr (.inl e)
     ·exact .inr (.inr e)
     ·exact .inl e
    obtain⟨v1,v2,v3⟩:=hV2 k hk';exact hK k v1 v2 v3
 ·rintro V w' ⟨g1,g2,g3,g4,g5,g6,g7,g8⟩ _ hsz hdf;rw[jb];refine zb (zit g4) ?_;rintro _ w5 ⟨rfl,hB,hK⟩;refine⟨_,rfl,?_⟩;have oB:Only (fun k=>r5<=k) w' w5:=⟨hB.os,hB.tape,hB.output,hB.size,fun k _ hk=>hB.block k (by have:¬r5<=k:=hk;omega)⟩;have a1:=g2.only oB (by show ¬r5<=r1;omega);have a2:=g3.only oB (by show ¬r5<=r2;omega);have hx5:=Only.ext g6 oB (fun j hj=>by have:r5<=j:=hj;omega);have hdf5:w5.heap[w4.heap.size]?=some (.deferred (some [])):=by
   rw[hK w4.heap.size (by omega) (by omega) (fun o ho c fz e=>by rw[hdf]at ho;injection ho with ho;rw[<- ho]at e;cases e)];exact hdf
  refine zZ a1 (by show 0<1;omega) ?_;have b1:=a1.set 0 (.string (mkB (q8 S n (qU (yb S n)).length)));have b2:=a2.other (p:=⟨r1,0,none⟩) (by show r1≠r2;omega) (.string (mkB (q8 S n (qU (yb S n)).length)));refine zZ b2 (by show 0<1;omega) ?_;have c1:=b1.other (p:=⟨r2,0,none⟩) (by show r2≠r1;omega) (.int .i64 0);have c2:=b2.set 0 (.int .i64 0);refine jn ?_ ?_
  ·rw[Below.heap_setCell _ _ _ _ (by show w4.heap.size≠r2;omega),Below.heap_setCell _ _ _ _ (by show w4.heap.size≠r1;omega)];exact hdf5
  have hxx:=(hx5.set (p:=⟨r1,0,none⟩) (by show w.heap.size<=r1;omega) (.string (mkB (q8 S n (qU (yb S n)).length)))).set (p:=⟨r2,0,none⟩) (by show w.heap.size<=r2;omega) (.int .i64 0);have hsb:=yc (a:=w4.heap.size) (b:=w4.heap.size+1) (w:=(w5.setCell ⟨r1,0,none⟩ (.string (mkB (q8 S n (qU (yb S n)).length)))).setCell ⟨r2,0,none⟩ (.int .i64 0)) (o:=.deferred none) (.inl rfl);refine zo (x:=mkB (q8 S n (qU (yb S n)).length)) (hsb.blk c1 (by omega)) (by rfl) (zo (x:=(0:Int)) (hsb.blk c2 (by omega)) (by rfl) ?_);refine⟨?_,hsb.ext hxx (by omega)⟩;unfold zbD;rw[zfL (fun j q hq=>g5 j q (by rw[x6];exact(List.getElem?_eq_some_iff.1 hq).1) hq)];unfold q8;rw[x6,List.take_length]
 ·rintro V c w' ⟨rfl,e,g1,g2,g3,g6,g7,g8⟩ hsz hdf;rw[jb];refine jn hdf ?_;have hsb:=yc (a:=w4.heap.size) (b:=w4.heap.size+1) (w:=w') (o:=.deferred none) (.inl rfl);refine zo (x:=ByteArray.empty) (hsb.blk g1 (by omega)) (by rfl) (zo (x:=e) (hsb.blk g2 (by omega)) (by rfl) ?_);rw[g3];exact⟨rfl,hsb.ext g6 (by omega)⟩
end V
/- Blobs:what they tell. -/
namespace V
open Go Go.Proofs Go.RowKit Crc
structure vP (S:Spa) (n:Nat) (b:ByteArray) (ks:List Nat):Prop where
 idx:S.page n=(((6:UInt8),ks,mkB (le 4 b.size)),0)
 len:ks.length=nparts S.r0 b.size
 data:∀ i,i<ks.length->S.page (ks.getD i 0)=(((7:UInt8),[],part S.r0 b i),0)
 most:b.size<=qt S.r0
theorem vP.blob {S:Spa} {R:List Nat} {n:Nat} {b:ByteArray} {ks:List Nat} (h:vP S n b ks) (hg:Good S R) (hn:zG S.sup.pages S.now n=true):Blob S n b ks:=by
 have hk:∀ k∈ks,zG S.sup.pages S.now k=true:=fun k hk=>(hg.well.good n hn).2 k (by unfold yh;rw[h.idx];exact hk);refine⟨by rw[(hg.get hn).1];exact h.idx,h.len,fun i hi=>?_,h.most⟩;have hm:ks.getD i 0∈ks:=by rw[getD_eq_getElem?_getD,List.getElem?_eq_getElem hi];exact getElem_mem hi
 rw[(hg.get (hk _ hm)).1];exact h.data i hi
theorem vP.keep {S S':Spa} {n:Nat} {b:ByteArray} {ks:List Nat} (h:vP S n b ks) (hr:S'.r0=S.r0) (hp:∀ k,k=n\/k∈ks->S'.page k=S.page k):vP S' n b ks:=by
 refine⟨by rw[hp n (.inl rfl)];exact h.idx,by rw[hr];exact h.len,fun i hi=>?_,by rw[hr];exact h.most⟩;have hm:ks.getD i 0∈ks:=by rw[getD_eq_getElem?_getD,List.getElem?_eq_getElem hi];exact getElem_mem hi
 rw[hp _ (.inr hm),hr];exact h.data i hi
structure zqg (S S2:Spa) (R:List Nat) (bs:ByteArray) (n:Nat) (ks:List Nat):Prop where
 good:Good S2 (n::R)
 sup:S2.sup=S.sup
 held:S2.held=S.held
 mark:S2.mark=S.mark
 slot:S2.slot=S.slot
 blob:vP S2 n bs ks
 two:2<=n
 lt:n<S.N
 page:∀ k,zG S.sup.pages S.now k=true->S2.page k=S.page k
 fresh:S.now.getD n 0=0
 one:S2.now.getD n 0=1
 now:∀ k,zG S.sup.pages S.now k=true->S2.now.getD k 0=S.now.getD k 0
 free:S.zR=S2.zR+nparts S.r0 bs.size+1
 yi:S.yi=ks++n::S2.yi
 klen:ks.length=nparts S.r0 bs.size
 pen:S2.dev.pen.length=S.dev.pen.length+nparts S.r0 bs.size+1
 kept:Kept S S2
theorem zph {S S1 S2:Spa} {R ks:List Nat} {bs:ByteArray} {n:Nat} (h0:Good S R) (hm:bs.size<=qt S.r0) (hP:Puts S S1 R ks (vE S.r0 bs (nparts S.r0 bs.size))) (hO:jv S1 S2 ((6:UInt8),ks,mkB (le 4 bs.size)) n) (hg:Good S2 (n::R)):zqg S S2 R bs n ks:=by
 have hr1:S1.r0=S.r0:=by unfold Spa.r0 Spa.room;rw[hP.sup]
 have hr2:S2.r0=S.r0:=by unfold Spa.r0 Spa.room;rw[hO.sup,hP.sup]
 have hkl:ks.length=nparts S.r0 bs.size:=by rw[<- hP.len];simp[vE]
 have hmem:∀ i,i<ks.length->ks.getD i 0∈ks:=fun i hi=>by rw[getD_eq_getElem?_getD,List.getElem?_eq_getElem hi];exact getElem_mem hi
 have hnk:n∉ks:=fun hk=>by
  have hf:=(zN.1 hO.free).1;rw[hP.now n,if_pos hk]at hf;cases hf
 have hfr:=zN.1 hO.free;have hn0:S.now.getD n 0=0:=by
  have:=hP.now n;rw[if_neg hnk]at this;omega
 have huk:∀ k,zG S.sup.pages S.now k=true->k∉ks/\k≠n/\k<S.N:=fun k hu=>by
  have hpos:=(zM.1 hu).2.2;refine⟨fun hk=>?_,fun e=>?_,h0.well.lt hu⟩
  ·have:=(zN.1 (hP.mem hk).2.2.1).1;omega
  ·rw[e]at hpos;omega
 have hN1:=hP.N;have hnl:n<S1.now.length:=by rw[hP.good.ok.now];exact hO.lt
 refine⟨hg,hO.sup.trans hP.sup,hO.held.trans hP.held,hO.mark.trans hP.mark,hO.slot.trans hP.slot,⟨hO.page,by rw[hr2];exact hkl,fun i hi=>?_,by rw[hr2];exact hm⟩,hO.two,by rw[<- hN1];exact hO.lt,fun k hu=>?_,hn0,by rw[hO.now,yn,if_pos ⟨rfl,hnl⟩],fun k hu=>?_,?_,?_,?_,?_,⟨hO.sup.trans hP.sup,hO.held.trans hP.held,hO.mark.trans hP.mark,hO.slot.trans hP.slot,⟨hO.dim.1.trans hP.dim.1,hO.dim.2.trans hP.dim.2⟩,fun k h0 hk hf=>?_⟩⟩
 ·have hmi:=hmem i hi;rw[hO.other _ (fun e=>hnk (e▸hmi)) (by rw[hN1];exact(hP.mem hmi).2.1),hP.page i hi,hr2];unfold vE;rw[getD_eq_getElem?_getD,List.getElem?_map,List.getElem?_range (by omega)];rfl
 ·obtain⟨a1,a2,a3⟩:=huk k hu;rw[hO.other k a2 (by rw[hN1];exact a3),hP.other k a3 a1]
 ·obtain⟨a1,a2,a3⟩:=huk k hu;rw[hO.now,yn,if_neg (fun e=>a2 e.1.symm),hP.now k,if_neg a1]
 ·unfold Spa.zR;rw[hP.free,hO.yi,length_append,length_cons];omega
 ·rw[hP.free,hO.yi]
 ·exact hkl
 ·rw[hO.pen,hP.pen];omega
 ·rw[hO.read k h0 (by rw[hN1];exact hk) (fun e=>?_)]
  ·exact hP.kept.read k h0 hk hf
  ·have e:k.toNat=n:=by omega
   rw[e]at hf;rcases hf with hf|hf
   ·have:=hO.two;omega
   ·rw[zN.2 ⟨hn0,by rw[<- hP.held];exact hfr.2.1,by rw[<- hP.mark];exact hfr.2.2⟩]at hf;cases hf
theorem zp6 {n:Nat} (h:n<=65536):lev (B (mkB (le 4 n)))=n:=by rw[xt];exact zgR (by omega)
theorem Blob.qd {S:Spa} {n:Nat} {b:ByteArray} {ks:List Nat} (h:Blob S n b ks):qd S n=(b.size,ks,0):=by
 have hb:b.size<=65536:=by have:=h.most;unfold qt at this;omega
 unfold V.qd;rw[h.idx];dsimp only;rw[if_neg (by simp),if_neg (by simp),if_neg (by rw[xv,zy];simp),zp6 hb,if_neg (by rw[h.len];omega)]
theorem zhm {S:Spa} {n:Nat} {b:ByteArray} {ks:List Nat} (h:Blob S n b ks) (hr:1<=S.r0):∀ (j i:Nat),i+j=ks.length->goS S (b.size-i*S.r0) (ks.drop i)=(List.range j).map fun t=>(part S.r0 b (i+t),(0:Int))
 |0,i,hi=>by
  rw[drop_of_length_le (by omega)];simp[goS]
 |j+1,i,hi=>by
  have hil:i<ks.length:=by omega
  have hd:=h.data i hil;have e:ks.drop i=ks.getD i 0::ks.drop (i+1):=by
   rw[List.drop_eq_getElem_cons hil,getD_eq_getElem?_getD,List.getElem?_eq_getElem hil];rfl
  have hp:=zcw (r:=S.r0) (b:=b) (i:=i) hr (by rw[<- h.len];exact hil);have hpe:zbC S (min (b.size-i*S.r0) S.r0) (ks.getD i 0)=0:=by
   unfold zbC;rw[hd];dsimp only;rw[if_neg (by rintro⟨_,e|e|e⟩;exact e rfl;simp at e;apply e;rw[hp.1];exact Nat.min_comm _ _)]
  rw[e,goS,hpe,if_neg (by simp),hd];have e2:b.size-i*S.r0-min (b.size-i*S.r0) S.r0=b.size-(i+1)*S.r0:=by
   rw[Nat.add_mul,Nat.one_mul];omega
  rw[e2,zhm h hr j (i+1) (by omega),List.range_succ_eq_map,map_cons,map_map];congr 1;apply map_congr_left;intro t _;show(part S.r0 b (i+1+t),(0:Int))=(part S.r0 b (i+(t+1)),0);rw[show i+1+t=i+(t+1) by omega]
theorem Blob.parts {S:Spa} {n:Nat} {b:ByteArray} {ks:List Nat} (h:Blob S n b ks) (hr:1<=S.r0):yb S n=(List.range ks.length).map fun t=>(part S.r0 b t,(0:Int)):=by
 unfold yb;rw[h.qd,if_neg (by simp)];have:=zhm h hr ks.length 0 (by omega);rw[Nat.zero_mul,Nat.sub_zero,List.drop_zero]at this;rw[this];apply map_congr_left;intro t _;rw[Nat.zero_add]
theorem Blob.get {S:Spa} {n:Nat} {b:ByteArray} {ks:List Nat} (h:Blob S n b ks) (hr:1<=S.r0):zbD S n=(b,0):=by
 unfold zbD;rw[h.parts hr,zfL (fun j q hq=>by
  rw[List.getElem?_map]at hq
  cases hh:(List.range ks.length)[j]? with
  |none=>rw[hh]at hq;cases hq
  |some t=>rw[hh]at hq;injection hq with hq;rw[<- hq])]
 dsimp only;have e:((List.range ks.length).map fun t=>(part S.r0 b t,(0:Int))).flatMap (fun p=>B p.1)=(List.range ks.length).flatMap fun t=>B (part S.r0 b t):=by
  rw[List.flatMap_map]
 rw[e,zew hr b ks.length (by rw[h.len];exact Nat.le_refl _),take_of_length_le]
 ·rw[zjp]
 ·rw[<- yp,h.len];unfold nparts;have:=Nat.lt_mul_div_succ (b.size+S.r0-1) (show 0<S.r0 by omega);rw[Nat.mul_comm,Nat.add_mul,Nat.one_mul]at this;omega
theorem Blob.plen {S:Spa} {n:Nat} {b:ByteArray} {ks:List Nat} (h:Blob S n b ks) (hd:uN S):(yb S n).length<=100000/\∀ p∈yb S n,p.1.size<=5000:=by
 obtain⟨q0,q1,q2,q3⟩:=xO hd;rw[h.parts (by omega)];have hn:=zcz q1 h.most;rw[<- h.len]at hn;refine⟨by rw[length_map,length_range];omega,fun p hp=>?_⟩;obtain⟨t,ht,rfl⟩:=mem_map.1 hp;have hp:=zcw (r:=S.r0) (b:=b) (i:=t) (by omega) (by rw[<- h.len];exact mem_range.1 ht);show(part S.r0 b t).size<=5000;omega
end V
/- Spaces after pages were put:plain. catalog.pages,spots. -/
namespace V
open Go Go.Proofs Go.RowKit Crc
theorem Great.made {S S':Spa} {R R' H ls:List Nat} {M:Option (List Nat)} (h:Great S R H M) (hm:Mk S S' ls) (hg:Good S' R') (hr:S.sup.pages.length<=S'.zR):Great S' R' H M:=by
 have hN:=hm.N;have hb:=h.good.dims.blocks;have hn:=h.good.dims.n;have ho:=h.heldOK;have hP:=ho.znw h.good;have hslot:∀ j:Int,j=0\/j=1->(S'.dev.read j).1=(S.dev.read j).1:=fun j hj=>hm.read j (by omega) (by omega) (fun hk=>by have:=(hm.mem hk).2.1;omega);refine⟨hg,⟨?_,?_,?_,?_,?_,?_⟩,?_,?_,?_⟩
 ·rw[hm.slot];exact ho.slot
 ·rw[hm.sup];exact ho.chk
 ·rw[hm.slot,hm.sup,hslot _ ho.slot];exact ho.cur
 ·rw[hm.slot,hm.sup,hslot _ (by unfold other;split<;>simp)];exact ho.old
 ·intro i hi;rw[hm.sup]at hi ⊢;have hmem:S.sup.pages.getD i 0∈S.sup.pages:=by rw[getD_eq_getElem?_getD,List.getElem?_eq_getElem hi];exact getElem_mem _
  have hlt:=(h.good.well.pgs _ hmem).2.1;rw[hm.held,hm.dim.1,hm.read _ (by omega) (by omega) ?_]
  ·exact ho.pgs i hi
  ·intro hk;rw[Int.toNat_natCast]at hk;have:=(zN.1 (hm.mem hk).2.2).1;have:=(hP.at_ _ hmem).2.2;omega
 ·rw[hm.held];exact ho.fit
 ·rw[hN,hm.sup,hm.held];exact yf.uO h.hwell (fun m hu=>hm.other m (h.hwell.lt hu) (fun hk=>by
   have:=(zN.1 (hm.mem hk).2.2).2.1
   have:=(zM.1 hu).2.2;omega))
 ·rw[hN,hm.sup,hm.mark];exact h.mwell.uO (fun m hc _ hmN=>hm.other m hmN (fun hk=>hc (zN.1 (hm.mem hk).2.2).2.2))
 ·rw[hm.sup];exact hr
variable {w w':World} {b db:Nat} {S:Spa} {F:Nat->Prop} {R H:List Nat} {M:Option (List Nat)}
open Classical in
noncomputable def zdY (r:Nat) (w:World):Nat:=if w.cell? ⟨r,0,none⟩=some (.int .u8 3) then 1 else 0
theorem zpO {r:Nat} {p:Page} {y:SLC} {ty:TypeId} (h:Blk w r (pgV p y) ty) (hp:p.1≠3):zdY r w=0:=by
 unfold zdY;rw[h.cell,if_neg];intro e;have e:(Value.int .u8 (p.1.toNat:Int))=.int .u8 3:=Option.some.inj e;injection e with _ e
 exact hp (UInt8.toNat_inj.1 (by show _=3;omega))
theorem zpP {r:Nat} {p:Page} {y:SLC} {ty:TypeId} (h:Blk w r (pgV p y) ty) (hp:p.1=3):zdY r w=1:=by
 unfold zdY;rw[h.cell,if_pos];show some (Value.int .u8 (p.1.toNat:Int))=_;rw[hp];rfl
theorem zhn (h:zV w b db S F) {n:Nat} {res:Bool} (hn:n<4294967296) (h0:(S.get n).2=0)
  (hp:((S.get n).1.1≠3/\res=decide ((S.get n).1.1=5))\/((S.get n).1.1=3/\∃ k r,(S.get n).1.2.1=k::r/\k<4294967296/\(S.get k).2=0/\(S.get k).1.1≠3/\res=decide ((S.get k).1.1=5))):
  Calls prog 87 #[.pointer (some ⟨b,0,none⟩),.int .u32 (n:Int)] w (Ret fun v w'=>v=.bool res/\Ext w w'):=by
 apply zoK;unfold S87;refine zb (zex h hn) ?_;rintro _ w1 ⟨y,rfl,ho,he1⟩;refine⟨(pgT (S.get n).1 y,(S.get n).2,()),rfl,?_⟩;refine yd (vs:=pgV (S.get n).1 y) (by rfl) (jo _ _) (fun r2 w2 hb2 he2 hr2=>?_) (by rfl);have ho2:=ho.ext he2;have he:=he1.trans he2;have hs1:=he1.size;rw[h0];refine⟨fun t w'=>t=((0:Int),())/\Ext w w'/\∃ (p:Page) (y:SLC),Blk w' r2 (pgV p y) 49/\((p.1≠3/\res=decide (p.1=5))\/(p.1=3/\∃ k r,p.2.1=k::r/\k<4294967296/\(S.get k).2=0/\(S.get k).1.1≠3/\res=decide ((S.get k).1.1=5)/\Sli (zx .u32) w' y.1 y.2.1 p.2.1)),fun _ w'=>zdY r2 w',⟨rfl,he,(S.get n).1,y,hb2,?_⟩,?_⟩
 ·rcases hp with hp|⟨hp,k,r,e1,e2,e3,e4,e5⟩
  ·exact .inl hp
  ·exact .inr ⟨hp,k,r,e1,e2,e3,e4,e5,ho2.sl⟩
 rintro _ w3 ⟨rfl,he3,p,y',hb3,hc⟩;refine zf (by rfl) (zO ((p.1.toNat:Nat):Int) hb3 (by rfl) ?_);rcases hc with ⟨h3,hres⟩|⟨h3,k,r,e1,e2,e3,e4,e5,hsl⟩
 ·refine zd (beq_eq_false_iff_ne.2 (fun e=>h3 (UInt8.toNat_inj.1 (by show _=3;omega)))) (zf (by rfl) ?_);refine zO ((p.1.toNat:Nat):Int) hb3 (by rfl) ⟨?_,he3⟩;rw[hres];congr 1;rw[Bool.eq_iff_iff,beq_iff_eq,decide_eq_true_iff];constructor
  ·intro e;exact UInt8.toNat_inj.1 (by show _=5;omega)
  ·intro e;rw[e];rfl
 ·refine zf (by rw[h3];rfl) (zn 1 y' hb3 (by rfl) ?_);rw[e1]at hsl;have hl:(k::r).length=y'.2.1:=hsl.len;have hle:=hsl.le;simp only [length_cons]at hl;refine z7 hsl (by omega) (by omega) ?_;show ze _ _ [_,.int .u32 ((k:Nat):Int)] _ _ w3;refine zb (zex (h.ext he3) e2) ?_;rintro _ w4 ⟨y4,rfl,ho4,he4⟩;refine⟨(pgT (S.get k).1 y4,(S.get k).2,()),rfl,?_⟩;have hb4:=hb3.ext he4;refine refill (vs:=pgV (S.get k).1 y4) hb4 (by rfl) (jo _ _) (by rfl) ?_;intro w5 hb5 hx5 hk5 hz5;refine⟨⟨by rw[e3],hx5 w (he3.trans he4) (by omega),_,y4,hb5,.inl ⟨e4,e5⟩⟩,?_⟩;show zdY r2 w5<zdY r2 w3;rw[zpO hb5 e4,zpP hb3 h3];omega
theorem zla (hg:Good S R) {n:Nat} {ks vs:List Nat} (ht:kY S n ks vs) (hu:zG S.sup.pages S.now n=true):(S.get n).2=0/\((((S.get n).1.1≠3/\true=decide ((S.get n).1.1=5))\/((S.get n).1.1=3/\∃ k r,(S.get n).1.2.1=k::r/\k<4294967296/\(S.get k).2=0/\(S.get k).1.1≠3/\true=decide ((S.get k).1.1=5)))):=by
 cases ht with
 |one hA=>
  rw[(hA.get hg hu).1];exact⟨rfl,.inl ⟨show(5:UInt8)≠3 by decide,rfl⟩⟩
 |two m a c h1 h2 h3 h4 h5 h6 h7 h8=>
  have hkid:yh S.page n=[a,c]:=by unfold yh;rw[h6]
  have hua:=((hg.well.good n hu).2 a (by rw[hkid];simp));obtain⟨a1,a2,a3⟩:=h7.get hg hua;rw[(hg.get hu).1,h6];refine⟨rfl,.inr ⟨rfl,a,[c],rfl,a3,?_⟩⟩;rw[a1];exact⟨rfl,show(5:UInt8)≠3 by decide,rfl⟩
end V
/- Contracts of the package catalog:spots. -/
namespace V
open Go Go.Proofs Go.RowKit Crc
variable {w w':World}
def spE:Enc (Nat×Addr) where
 k:=2
 f p:=[.int .u64 (p.1:Int),.pointer (some p.2)]
 len _:=rfl
 one _:=by
  intro v hv
  simp only [mem_cons,not_mem_nil,or_false]at hv
  rcases hv with rfl|rfl<;>rfl
 pos:=by decide
theorem zfM:qq prog 130 135 (.agg #[.int .u64 0,.pointer none]) 2 16:=⟨by kernel_rfl,by kernel_rfl,by kernel_rfl⟩
def adr (A:Option Addr):Addr:=A.getD ⟨0,0,none⟩
def vb (A:Option Addr) (i:Nat):Addr:=((adr A).add (i*5)).add 2
def vc (A:Option Addr) (i:Nat):Addr:=((adr A).add (i*2)).add 1
abbrev Spt:=Nat×Addr×Nat
def spT (A:Option Addr) (es:List Ent) (i:Nat):List Spt:=(List.range i).filterMap fun j=>if (es.getD j yu).2.2.1=0 then none else some (1+j,vb A j,(es.getD j yu).2.2.1)
def spS (A:Option Addr) (ss:List Snp) (i:Nat):List Spt:=(List.range i).filterMap fun j=>if (ss.getD j zP).2=0 then none else some (100+j,vc A j,(ss.getD j zP).2)
def zW (x y:SLC) (c:Cat):List Spt:=spT x.1 c.1 c.1.length++spS y.1 c.2 c.2.length
def spP (p:Spt):Nat×Addr:=(p.1,p.2.1)
theorem jg (A:Option Addr) (es:List Ent) (i:Nat):spT A es (i+1)=spT A es i++(if (es.getD i yu).2.2.1=0 then [] else [(1+i,vb A i,(es.getD i yu).2.2.1)]):=by
 unfold spT;rw[range_succ,List.filterMap_append];congr 1
 by_cases h:(es.getD i yu).2.2.1=0
 ·rw[if_pos h,List.filterMap_cons,if_pos h];rfl
 ·rw[if_neg h,List.filterMap_cons,if_neg h];rfl
theorem jM (A:Option Addr) (ss:List Snp) (i:Nat):spS A ss (i+1)=spS A ss i++(if (ss.getD i zP).2=0 then [] else [(100+i,vc A i,(ss.getD i zP).2)]):=by
 unfold spS;rw[range_succ,List.filterMap_append];congr 1
 by_cases h:(ss.getD i zP).2=0
 ·rw[if_pos h,List.filterMap_cons,if_pos h];rfl
 ·rw[if_neg h,List.filterMap_cons,if_neg h];rfl
theorem zff (A:Option Addr) (es:List Ent) (i:Nat):(spT A es i).length<=i:=by
 have:=List.length_filterMap_le (fun j=>if (es.getD j yu).2.2.1=0 then none else some (1+j,vb A j,(es.getD j yu).2.2.1)) (List.range i)
 rwa [length_range]at this
theorem zi0 (A:Option Addr) (ss:List Snp) (i:Nat):(spS A ss i).length<=i:=by
 have:=List.length_filterMap_le (fun j=>if (ss.getD j zP).2=0 then none else some (100+j,vc A j,(ss.getD j zP).2)) (List.range i)
 rwa [length_range]at this
theorem zaG {r:Nat} {t:TypeId} {x y:SLC} {c:Cat} (hb:Blk w r (zB x y) t) (h:yH w x y c) (h1:c.1.length<=1000) (h2:c.2.length<=1000):
  Calls prog 73 #[.pointer (some ⟨r,0,none⟩)] w (Ret fun v w'=>∃ A k,v=.slice A (zW x y c).length k/\Owni spE 135 w' w.heap.size A (zW x y c).length k ((zW x y c).map spP)/\Ext w w'):=by
 obtain⟨⟨raws,hT⟩,hs,hcx,hcy⟩:=h;have hxl:=hT.sl.len;have hyl:=hs.len;have hlr:=hT.len;apply zoz;unfold S73;refine zt (zO x hb (by rfl) ?_);refine zE (fun q w'=>∃ (i:Nat) (A:Option Addr) (k:Nat),i<=c.1.length/\q=((A,(spT x.1 c.1 i).length,k),(i:Int),())/\Ext w w'/\Owni spE 135 w' w.heap.size A (spT x.1 c.1 i).length k ((spT x.1 c.1 i).map spP)) (fun q=>(c.1.length-q.2.1).toNat) ⟨0,none,0,by omega,rfl,Ext.refl _,Owni.nil _ _ _⟩ ?_;rintro _ w1 ⟨i,A,k,hi,rfl,he1,ho⟩;dsimp only;have hb1:=hb.ext he1
 by_cases hlt:i<c.1.length
 ·refine zf (decide_eq_true (by omega)) (zt (zO x hb1 (by rfl) ?_));refine zbi (E:=xg) 2 (fun e:Raw=>((e.2.2.1:Nat):Int)) xf (hT.sl.ext he1) (fun _=>rfl) rfl (by omega) (by omega) ?_;rw[Int.toNat_natCast,show(raws.getD i xf).2.2.1=(c.1.getD i yu).2.2.1 by rw[(hT.at_ i hlt).rest]];have hw:wrap .i64 ((i:Int)+1)=((i+1:Nat):Int):=by rw[wrap_i64 (by omega) (by omega)];rfl
  have hn:=zff x.1 c.1 i;have hsu:=jg x.1 c.1 i;refine zg (fun hq=>?_) (fun hq=>?_)
  ·have hq:¬(c.1.getD i yu).2.2.1=0:=fun e=>by rw[e]at hq;cases hq
   rw[if_neg hq]at hsu;refine zt (zO x hb1 (by rfl) (zC ⟨by omega,by omega⟩ ?_));obtain⟨a,ha,hsp,hcs⟩:=hT.sl.2.2 (by omega);refine⟨a,ha,?_⟩;show zi _ _ _;have hkey:wrap .u64 (wrap .i64 (1+(i:Int)))=((1+i:Nat):Int):=by rw[wrap_i64 (by omega) (by omega),show(1:Int)+(i:Int)=((1+i:Nat):Int) by omega,zD (by omega)]
   rw[hkey,hw];have hadr:(a.add (i*5)).add 2=vb x.1 i:=by unfold vb adr;rw[ha];rfl
   rw[hadr];refine xb (E:=spE) (ys:=[(1+i,vb x.1 i)]) (by rfl) rfl zfM ho he1.size (by omega) (by omega) ?_;intro A2 k2 w2 ho2 hg2;refine⟨⟨i+1,A2,k2,by omega,?_,he1.grown hg2.grown ho.row,?_⟩,by omega⟩
   ·rw[hsu,length_append];rfl
   ·rw[hsu,length_append,map_append];exact ho2
  ·have hq:(c.1.getD i yu).2.2.1=0:=by have:=bne_eq_false_iff_eq.1 hq;omega
   rw[if_pos hq,append_nil]at hsu;rw[hw];exact⟨⟨i+1,A,k,by omega,by rw[hsu],he1,by rw[hsu];exact ho⟩,by omega⟩
 ·obtain rfl:i=c.1.length:=by omega
  refine zd (decide_eq_false (by omega)) (zt (zn 1 y hb1 (by rfl) ?_));have hn1:=zff x.1 c.1 c.1.length;have hnil:spT x.1 c.1 c.1.length++spS y.1 c.2 0=spT x.1 c.1 c.1.length:=by simp[spS]
  refine zE (fun q w'=>∃ (i:Nat) (A:Option Addr) (k:Nat),i<=c.2.length/\q=((A,(spT x.1 c.1 c.1.length++spS y.1 c.2 i).length,k),(i:Int),())/\Ext w w'/\Owni spE 135 w' w.heap.size A (spT x.1 c.1 c.1.length++spS y.1 c.2 i).length k ((spT x.1 c.1 c.1.length++spS y.1 c.2 i).map spP)) (fun q=>(c.2.length-q.2.1).toNat) ⟨0,A,k,by omega,by rw[hnil];rfl,he1,by rw[hnil];exact ho⟩ ?_;rintro _ w2 ⟨i,A,k,hi,rfl,he2,ho⟩;dsimp only;have hb2:=hb.ext he2
  by_cases hlt:i<c.2.length
  ·refine zf (decide_eq_true (by omega)) (zt (zn 1 y hb2 (by rfl) ?_));refine zbi (E:=zA) 1 (fun e:Snp=>((e.2:Nat):Int)) zP (hs.ext he2) (fun _=>rfl) rfl (by omega) (by omega) ?_;rw[Int.toNat_natCast];have hw:wrap .i64 ((i:Int)+1)=((i+1:Nat):Int):=by rw[wrap_i64 (by omega) (by omega)];rfl
   have hn:=zi0 y.1 c.2 i;have hsu:=jM y.1 c.2 i;have hnl:(spT x.1 c.1 c.1.length++spS y.1 c.2 i).length<=2000:=by rw[length_append];omega
   refine zg (fun hq=>?_) (fun hq=>?_)
   ·have hq:¬(c.2.getD i zP).2=0:=fun e=>by rw[e]at hq;cases hq
    rw[if_neg hq]at hsu;refine zt (zn 1 y hb2 (by rfl) (zC ⟨by omega,by omega⟩ ?_));obtain⟨a,ha,hsp,hcs⟩:=hs.2.2 (by omega);refine⟨a,ha,?_⟩;show zi _ _ _;have hkey:wrap .u64 (wrap .i64 (100+(i:Int)))=((100+i:Nat):Int):=by rw[wrap_i64 (by omega) (by omega),show(100:Int)+(i:Int)=((100+i:Nat):Int) by omega,zD (by omega)]
    rw[hkey,hw];have hadr:(a.add (i*2)).add 1=vc y.1 i:=by unfold vc adr;rw[ha];rfl
    rw[hadr];refine xb (E:=spE) (ys:=[(100+i,vc y.1 i)]) (by rfl) rfl zfM ho he2.size (by omega) (by omega) ?_;intro A2 k2 w3 ho3 hg3;refine⟨⟨i+1,A2,k2,by omega,?_,he2.grown hg3.grown ho.row,?_⟩,by omega⟩
    ·rw[hsu,<- append_assoc,length_append (bs:=[_])];rfl
    ·rw[hsu,<- append_assoc,length_append (bs:=[_]),map_append (l₂:=[_])];exact ho3
   ·have hq:(c.2.getD i zP).2=0:=by have:=bne_eq_false_iff_eq.1 hq;omega
    rw[if_pos hq,append_nil]at hsu;rw[hw];exact⟨⟨i+1,A,k,by omega,by rw[hsu],he2,by rw[hsu];exact ho⟩,by omega⟩
  ·obtain rfl:i=c.2.length:=by omega
   refine zd (decide_eq_false (by omega)) ?_;exact⟨A,k,rfl,ho,he2⟩
end V
/- Catalogs as trees:plain. -/
namespace V
open Go Go.Proofs Go.RowKit Crc
def kvC (c:Cat):List (Nat×Nat):=(zW (none,0,0) (none,0,0) c).map fun p=>(p.1,p.2.2)
def qJ (c:Cat):List Nat:=(kvC c).map fun p=>p.1
def zU (c:Cat):List Nat:=(kvC c).map fun p=>p.2
theorem zho (A A':Option Addr) (es:List Ent):∀ i,(spT A es i).map (fun p=>(p.1,p.2.2))=(spT A' es i).map fun p=>(p.1,p.2.2)
 |0=>rfl
 |i+1=>by
  rw[jg,jg,map_append,map_append,zho A A' es i];congr 1;split<;>rfl
theorem zhp (A A':Option Addr) (ss:List Snp):∀ i,(spS A ss i).map (fun p=>(p.1,p.2.2))=(spS A' ss i).map fun p=>(p.1,p.2.2)
 |0=>rfl
 |i+1=>by
  rw[jM,jM,map_append,map_append,zhp A A' ss i];congr 1;split<;>rfl
theorem zbE (x y:SLC) (c:Cat):(zW x y c).map (fun p=>(p.1,p.2.2))=kvC c:=by
 unfold kvC zW;rw[map_append,map_append,zho x.1 none,zhp y.1 none]
theorem zai (x y:SLC) (c:Cat):(zW x y c).length=(kvC c).length:=by rw[<- zbE x y c,length_map]
theorem zeE (c:Cat):(kvC c).length<=c.1.length+c.2.length:=by
 rw[<- zai (none,0,0) (none,0,0)];unfold zW;rw[length_append];have:=zff none c.1 c.1.length;have:=zi0 none c.2 c.2.length;dsimp only;omega
theorem zhq (es:List Ent):∀ i,((spT none es i).map fun p=>p.1).Pairwise (· < ·)/\∀ k∈(spT none es i).map (fun p=>p.1),1<=k/\k<=i
 |0=>⟨.nil,by simp[spT]⟩
 |i+1=>by
  obtain⟨h1,h2⟩:=zhq es i;rw[jg,map_append];constructor
  ·rw[List.pairwise_append];refine⟨h1,by split<;>simp,fun a ha b hb=>?_⟩;have:=h2 a ha;split at hb
   ·simp at hb
   ·simp at hb;omega
  ·intro k hk;rcases mem_append.1 hk with e|e
   ·have:=h2 k e;omega
   ·split at e
    ·simp at e
    ·simp at e;omega
theorem zhr (ss:List Snp):∀ i,((spS none ss i).map fun p=>p.1).Pairwise (· < ·)/\∀ k∈(spS none ss i).map (fun p=>p.1),100<=k/\k<100+i
 |0=>⟨.nil,by simp[spS]⟩
 |i+1=>by
  obtain⟨h1,h2⟩:=zhr ss i;rw[jM,map_append];constructor
  ·rw[List.pairwise_append];refine⟨h1,by split<;>simp,fun a ha b hb=>?_⟩;have:=h2 a ha;split at hb
   ·simp at hb
   ·simp at hb;omega
  ·intro k hk;rcases mem_append.1 hk with e|e
   ·have:=h2 k e;omega
   ·split at e
    ·simp at e
    ·simp at e;omega
theorem keys_eq (c:Cat):qJ c=(spT none c.1 c.1.length).map (fun p=>p.1)++(spS none c.2 c.2.length).map (fun p=>p.1):=by
 unfold qJ kvC zW;rw[map_map,map_append];rfl
theorem zpi {c:Cat} (h1:c.1.length<=16) (h2:c.2.length<=16):(0::qJ c).Pairwise (· < ·)/\∀ k∈0::qJ c,k<200:=by
 obtain⟨a1,a2⟩:=zhq c.1 c.1.length;obtain⟨b1,b2⟩:=zhr c.2 c.2.length;rw[keys_eq];constructor
 ·rw[List.pairwise_cons,List.pairwise_append];refine⟨fun k hk=>?_,a1,b1,fun x hx y hy=>?_⟩
  ·rcases mem_append.1 hk with e|e
   ·have:=a2 k e;omega
   ·have:=b2 k e;omega
  ·have:=a2 x hx;have:=b2 y hy;omega
 ·intro k hk;rcases mem_cons.1 hk with rfl|hk
  ·omega
  ·rcases mem_append.1 hk with e|e
   ·have:=a2 k e;omega
   ·have:=b2 k e;omega
theorem zhs:∀ {l:List Nat},l.Pairwise (· < ·)->xM l=true
 |[],_=>rfl
 |[_],_=>rfl
 |a::b::r,h=>by
  rw[List.pairwise_cons]at h;show(decide (a<b)&&xM (b::r))=true;rw[decide_eq_true (h.1 b (by simp)),zhs h.2];rfl
structure zeF (S:Spa) (n:Nat) (c:Cat):Prop where
 isC:ku c
 tree:∃ bn bks,kY S n (0::qJ c) (bn::zU c)/\vP S bn (V.mkB (xI c)) bks
end V
/- Contracts of the package catalog:Put. -/
namespace V
open Go Go.Proofs Go.RowKit Crc
variable {w w':World} {b db:Nat} {S:Spa} {F:Nat->Prop} {R H:List Nat} {M:Option (List Nat)}
theorem zpj (h:zV w b db S F) (hg:Great S R H M) (hpen:S.dev.pen.length<=900000) {bs:ByteArray} (hbs:bs.size<=qt S.r0) (hf:S.sup.pages.length+nparts S.r0 bs.size+1<=S.zR):
  Calls prog 76 #[.pointer (some ⟨b,0,none⟩),.string bs] w (Ret fun v w'=>∃ (S2:Spa) (n:Nat) (ks ls:List Nat),v=.tuple #[.int .u32 (n:Int),.int .i64 0]/\Mk S S2 ls/\ls.length=nparts S.r0 bs.size+1/\Great S2 (n::R) H M/\vP S2 n bs ks/\S2.now.getD n 0=1/\yM w b db F S2 w'):=by
 obtain⟨q0,q1,q2,q3⟩:=xO hg.good.dims;have hm:qt S.r0<=65536:=by unfold qt;omega
 obtain⟨Fd,x,hb,hr,nb,nr,m,h'⟩:=h;refine(zjT h' hg.good hpen bs (by omega)).mono (Ret.mono ?_);rintro v w' (⟨h1,_⟩|⟨_,h2,S1,S2,ks,n,hP,hO,hG,rfl,hst⟩|⟨_,h2,_⟩)
 ·omega
 ·have hB:=zph hg.good hbs hP hO hG;have hlen:S1.now.length=S1.N:=hP.good.well.len;have hMk:Mk S S2 (ks++[n]):=hP.mk_.trans (hO.mk_ hlen);refine⟨S2,n,ks,ks++[n],rfl,hMk,by rw[length_append,hB.klen];rfl,hg.made hMk hG (by have:=hB.free;omega),hB.blob,hB.one,hst⟩
 ·omega
structure zpQ (S S':Spa) (n:Nat) (c:Cat) (ls R H:List Nat) (M:Option (List Nat)):Prop where
 made:Mk S S' ls
 great:Great S' (n::R) H M
 pg:zeF S' n c
 few:ls.length<=nparts S.r0 (xI c).length+4
theorem zp7 {x:SLC} {raws:List Raw} {es:List Ent} (h:za0 w x raws es) {i:Nat} (hi:i<es.length):w.cell? (vb x.1 i)=some (.int .u32 ((es.getD i yu).2.2.1:Int)):=by
 have hl:=h.len;have g:raws[i]?=some (raws.getD i xf):=by rw[getD_eq_getElem?_getD,List.getElem?_eq_getElem (by omega)];rfl
 obtain⟨a,ha,hsp,hc⟩:=h.sl.at_ g;obtain⟨_,_,h2,_⟩:=hc;have:vb x.1 i=(a.add (i*5)).add 2:=by unfold vb adr;rw[ha];rfl
 rw[this,<- (h.at_ i hi).rest];exact h2
theorem zp8 {y:SLC} {ss:List Snp} (h:Sli zA w y.1 y.2.1 ss) {i:Nat} (hi:i<ss.length):w.cell? (vc y.1 i)=some (.int .u32 ((ss.getD i zP).2:Int)):=by
 have g:ss[i]?=some (ss.getD i zP):=by rw[getD_eq_getElem?_getD,List.getElem?_eq_getElem hi];rfl
 obtain⟨a,ha,hsp,hc⟩:=h.at_ g;obtain⟨_,h1,_⟩:=hc;have:vc y.1 i=(a.add (i*2)).add 1:=by unfold vc adr;rw[ha];rfl
 rw[this];exact h1
theorem zaH {x y:SLC} {c:Cat} (h:yH w x y c):∀ p∈zW x y c,w.cell? p.2.1=some (.int .u32 (p.2.2:Int)):=by
 obtain⟨⟨raws,hT⟩,hs,_⟩:=h;intro p hp;unfold zW at hp;rcases mem_append.1 hp with e|e
 ·unfold spT at e;obtain⟨i,hi,e⟩:=List.mem_filterMap.1 e;rw[mem_range]at hi;split at e
  ·cases e
  ·injection e with e
   subst e;exact zp7 hT hi
 ·unfold spS at e;obtain⟨i,hi,e⟩:=List.mem_filterMap.1 e;rw[mem_range]at hi;split at e
  ·cases e
  ·injection e with e
   subst e;exact zp8 hs hi
end V
/- Contracts of the package catalog:Put,whole. -/
namespace V
open Go Go.Proofs Go.RowKit Crc
variable {w w':World} {b db:Nat} {S:Spa} {F:Nat->Prop} {R H:List Nat} {M:Option (List Nat)}
structure ug (w0 w:World) (A1 A2:Option Addr) (n c1 c2:Nat) (ks vs:List Nat):Prop where
 ext:Ext w0 w
 ks:Owni (zx .u64) 40 w w0.heap.size A1 n c1 ks
 vs:Owni (zx .u64) 40 w w0.heap.size A2 n c2 vs
 ne:∀ j,orow A1=some j->orow A2≠some j
theorem ug.ext' {w0:World} {A1 A2:Option Addr} {n c1 c2:Nat} {ks vs:List Nat} (h:ug w0 w A1 A2 n c1 c2 ks vs) (he:Ext w w'):ug w0 w' A1 A2 n c1 c2 ks vs:=⟨h.ext.trans he,h.ks.ext he,h.vs.ext he,h.ne⟩
theorem zdZ {w0:World} {A1 A2:Option Addr} {n c1 c2 k rk:Nat} {ks vs:List Nat} {t1:TypeId} {K1:SLC->WP} (h:ug w0 w A1 A2 n c1 c2 ks vs) (hk:Blk w rk [.int .u64 (k:Int)] t1) (hn:n<=1000000)
  (hK:∀ A1' c1' w1,Owni (zx .u64) 40 w1 w0.heap.size A1' (n+1) c1' (ks++[k])->Owni (zx .u64) 40 w1 w0.heap.size A2 n c2 vs->(∀ j,orow A1'=some j->orow A2≠some j)->Ext w0 w1->w.heap.size<=w1.heap.size->(∀ q,orow A1≠some q->q<w.heap.size->w1.heap[q]?=w.heap[q]?)->K1 (A1',n+1,c1') w1):
  zv prog (Builtin.append_ #[138,138] 138 #[.slice A1 n c1,.slice (some (aD rk)) 1 1]) .slc K1 w:=by
 have hx:Sli (zx .u64) w (some ⟨rk,0,none⟩) 1 [k]:=Sli.xA (E:=zx .u64) (xs:=[k]) hk rfl (by omega);refine xk kC h.ks h.ext.size hx (by omega) (by omega) ?_;intro A1' c1' w1 ho hg _;have hs:=hg.grown.size;refine hK A1' c1' w1 ho (h.vs.grown hg.grown (fun j hj=>h.ne j hj)) (fun j hj e=>?_) (h.ext.grown hg.grown h.ks.row) hs (fun q hq hlt=>hg.grown.block q hlt (fun e=>hq e.symm));rcases hg.next j hj with e1|e1
 ·exact h.ne j e1 e
 ·have:=h.vs.yg j e;omega
theorem zd0 {w0:World} {A1 A2:Option Addr} {n c1 c2 v rv:Nat} {ks vs:List Nat} {t2:TypeId} {K1:SLC->WP} (h1:Owni (zx .u64) 40 w w0.heap.size A1 (n+1) c1 ks) (h2:Owni (zx .u64) 40 w w0.heap.size A2 n c2 vs) (hne:∀ j,orow A1=some j->orow A2≠some j) (he:Ext w0 w) (hv:Blk w rv [.int .u64 (v:Int)] t2) (hn:n<=1000000)
  (hK:∀ A2' c2' w1,ug w0 w1 A1 A2' (n+1) c1 c2' ks (vs++[v])->w.heap.size<=w1.heap.size->(∀ q,orow A2≠some q->q<w.heap.size->w1.heap[q]?=w.heap[q]?)->K1 (A2',n+1,c2') w1):
  zv prog (Builtin.append_ #[138,138] 138 #[.slice A2 n c2,.slice (some (aD rv)) 1 1]) .slc K1 w:=by
 have hx:Sli (zx .u64) w (some ⟨rv,0,none⟩) 1 [v]:=Sli.xA (E:=zx .u64) (xs:=[v]) hv rfl (by omega);refine xk kC h2 he.size hx (by omega) (by omega) ?_;intro A2' c2' w1 ho hg _;have hs:=hg.grown.size;refine hK A2' c2' w1 ⟨he.grown hg.grown h2.row,h1.grown hg.grown (fun j hj e=>hne j e hj),ho,fun j hj e=>?_⟩ hs (fun q hq hlt=>hg.grown.block q hlt (fun e=>hq e.symm));rcases hg.next j e with e1|e1
 ·exact hne j hj e1
 ·have:=h1.yg j hj;omega
theorem zht (h:zV w b db S F) {x y:SLC} {c:Cat} (hC:∀ w',Only F w w'->yH w' x y c) (hok:va c=true) (hg:Great S (zU c++R) H M) (hpen:S.dev.pen.length<=500000) (hr:204<=S.r0) (hmost:(xI c).length<=qt S.r0)
  (hf:S.sup.pages.length+nparts S.r0 (xI c).length+4<=S.zR) (h6:∀ v∈zU c,S.now.getD v 0<65535):
  Calls prog 36 #[.pointer (some ⟨b,0,none⟩),.agg (zB x y).toArray] w (Ret fun v w'=>(c=zaz/\v=.tuple #[.int .u32 0,.int .i64 0]/\yM w b db F S w')\/(c≠zaz/\∃ (S':Spa) (n:Nat) (ls:List Nat),v=.tuple #[.int .u32 (n:Int),.int .i64 0]/\zpQ S S' n c ls R H M/\yM w b db F S' w')):=by
 obtain⟨q0,q1,q2,q3⟩:=xO hg.good.dims;have hIs:=jK.1 hok;have ht16:=hIs.tabs;have hs16:=hIs.snaps;have hFlt:=h.lt;have hC0:=hC w (Only.refl F w);have hxl:c.1.length=x.2.1:=by obtain⟨⟨raws,hT⟩,_⟩:=hC0;rw[<- hT.len];exact hT.sl.len
 have hyl:c.2.length=y.2.1:=hC0.2.1.len;apply zn7;unfold S36;refine zq fun r1 w1 hb1 he1 hr1 hz1=>?_;have hb1:Blk w1 r1 (zB x y) 30:=hb1;have hr1F:¬F r1:=fun hf=>by have:=hFlt _ hf;omega
 refine zK (ls:=yy) (yl x y) hb1 (by rfl) ?_;refine zb (zfc (hC0.ext he1)) ?_;rintro _ w2 ⟨rfl,he2⟩;have eB:zcD c=(mkB (xI c),0):=by unfold zcD;rw[if_pos hok]
 rw[eB];refine⟨(mkB (xI c),0,()),rfl,zd (by rfl) ?_⟩;have hb2:=hb1.ext he2;have he02:=he1.trans he2;refine zO x hb2 (by rfl) (zn 1 y hb2 (by rfl) ?_);rw[show wrap .i64 (((x.2.1:Nat):Int)+((y.2.1:Nat):Int))=((x.2.1+y.2.1:Nat):Int) by rw[wrap_i64 (by omega) (by omega)];omega]
 by_cases h0:c=zaz
 ·refine zf (beq_iff_eq.2 ?_) (.inl ⟨h0,rfl,yM.ext h he02⟩);rw[h0]at hxl hyl;have:x.2.1=0:=hxl.symm;have:y.2.1=0:=hyl.symm;omega
 have hne:¬(x.2.1+y.2.1=0):=fun e=>h0 (Prod.ext (eq_nil_of_length_eq_zero (by omega)) (eq_nil_of_length_eq_zero (by omega)));refine zd (beq_eq_false_iff_ne.2 (by omega)) ?_;have hmk:(mkB (xI c)).size=(xI c).length:=xv _;refine zb (zpj (h.ext he02) hg (by omega) (by rw[hmk];exact hmost) (by rw[hmk];omega)) ?_;rintro _ w3 ⟨S2,bn,bks,ls,rfl,hMk,hll,hG2,hBl,hone,F3,h3,hF3,hO3⟩;refine⟨((bn:Int),0,()),rfl,zd (by rfl) ?_⟩;have hb3:=hb2.only hO3 hr1F;have hO03:Only F w w3:=Only.trans (Only.zz he02) hO3 (fun j hj=>.inl hj);have hs02:=he02.size;have hs3:=hO3.2.2.2.1;have hF30:∀ k,F3 k->F k\/w.heap.size<=k:=fun k hk=>by
  rcases hF3 k hk with e|e
  ·exact .inl e
  ·exact .inr (by omega)
 have hbn32:bn<4294967296:=by
  have:=hG2.good.well.lt (hG2.good.well.root bn mem_cons_self);have:=hG2.good.dims.n;omega
 refine zfb (B:=w3.heap.size) (Nat.le_refl _) (by simp) fun r7 w4 hK0 he4 hr7 hz4=>?_;rw[zD (by omega)];refine zfb (B:=w3.heap.size) (by omega) (by simp) fun r8 w5 hV0 he5 hr8 hz5=>?_;have he35:=he4.trans he5;have hC5:yH w5 x y c:=(hC w3 hO03).ext he35;have hb5:=hb3.ext he35;refine zb (zaG hb5 hC5 (by omega) (by omega)) ?_;rintro _ w6 ⟨Asp,ksp,rfl,hsp,he6⟩;refine⟨(Asp,(zW x y c).length,ksp),rfl,?_⟩;have he36:=he35.trans he6;have hC6:=hC5.ext he6;have hcell:=zaH hC6;have hsl:=hsp.sl;have hkvl:=zeE c;have hspl:=zai x y c;have hkv:=zbE x y c;generalize hspots:zW x y c=sp at *;have hts:ug w3 w6 (some ⟨r7,0,none⟩) (some ⟨r8,0,none⟩) 1 1 1 [0] [bn]:=⟨he36,((show Owni (zx .u64) 40 w4 w3.heap.size (some ⟨r7,0,none⟩) 1 1 [0] from hK0).ext he5).ext he6,(show Owni (zx .u64) 40 w5 w3.heap.size (some ⟨r8,0,none⟩) 1 1 [bn] from hV0).ext he6,fun j hj e=>by
  have e1:r7=j:=Option.some.inj hj
  have e2:r8=j:=Option.some.inj e
  omega⟩
 dsimp only;have hcell3:∀ p∈sp,∀ {w9:World},Ext w3 w9->w9.cell? p.2.1=some (.int .u32 (p.2.2:Int)):=fun p hp w9 he9=>by
  have:=zaH (hC w3 hO03) p (by rw[hspots];exact hp);exact he9.cell this
 have hroot:∀ p∈sp,p.2.2∈zU c:=fun p hp=>by
  unfold zU;rw[<- hkv,map_map];exact mem_map.2 ⟨p,hp,rfl⟩
 have hspsz:sp.length<=32:=by omega
 have hr32:∀ v∈zU c,v<4294967296:=fun v hv=>by
  have:=hg.good.well.lt (hg.good.well.root v (mem_append_left _ hv));have:=hg.good.dims.n;omega
 refine zE (fun q w'=>∃ (i:Nat) (A1 A2:Option Addr) (c1 c2:Nat),i<=sp.length/\q=((A1,i+1,c1),(A2,i+1,c2),(i:Int),())/\ug w3 w' A1 A2 (i+1) c1 c2 (0::(sp.take i).map fun p=>p.1) (bn::(sp.take i).map fun p=>p.2.2)/\Owni spE 135 w' w5.heap.size Asp sp.length ksp (sp.map spP)) (fun q=>(sp.length-q.2.2.1).toNat) ⟨0,_,_,1,1,by omega,rfl,hts,hsp⟩ ?_;rintro _ w7 ⟨i,A1,A2,c1,c2,hi,rfl,ht7,hs7⟩;dsimp only
 by_cases hlt:i<sp.length
 ·refine zf (decide_eq_true (by omega)) ?_;have eg:(sp.map spP)[i]?=some (spP (sp[i]'hlt)):=by rw[List.getElem?_map,List.getElem?_eq_getElem hlt];rfl
  have hmem:sp[i]'hlt∈sp:=getElem_mem hlt;have tk:sp.take (i+1)=sp.take i++[sp[i]'hlt]:=take_succ_eq_append_getElem hlt;generalize sp[i]'hlt=p at *;refine jz hs7.sl (by omega) (x:=spP p) (by rw[Int.toNat_natCast];exact eg) rfl ?_;intro pa hpa hca;refine kj (ls:=[.int .u64,.ptr]) (x:=((p.1:Int),some p.2.1,())) hca ?_;refine yd (vs:=[.int .u64 (p.1:Int),.pointer (some p.2.1)]) (by rfl) (by
   intro v hv
   simp only [mem_cons,not_mem_nil,or_false]at hv
   rcases hv with rfl|rfl<;>rfl) (fun r14 w8 hb14 he8 hr14=>?_) (by rfl)
  refine zS fun w9 he9 hz9 hh9=>?_;have hb14:=hb14.ext he9;have he89:=he8.trans he9;have ht9:=ht7.ext' he89;have hs9:=hs7.ext he89;refine zO ((p.1:Nat):Int) hb14 (by rfl) (zn 1 (some p.2.1) hb14 (by rfl) (zt ?_));refine zbg (l:=.int .u32) (x:=((p.2.2:Nat):Int)) (hcell3 p hmem ht9.ext) ?_;have hv32:=hr32 _ (hroot p hmem);rw[show wrap .u64 ((p.2.2:Nat):Int)=((p.2.2:Nat):Int) from zD (by omega)];have hw:wrap .i64 ((i:Int)+1)=((i+1:Nat):Int):=by rw[wrap_i64 (by omega) (by omega)];rfl
  rw[hw];have neR:∀ {w':World} {A:Option Addr} {n c0:Nat} {xs:List Nat},Owni (zx .u64) 40 w' w3.heap.size A n c0 xs->Blk w' r14 [.int .u64 (p.1:Int),.pointer (some p.2.1)] 135->orow A≠some r14:=fun ho hb e=>Own.neB (show Own 40 _ _ _ _ _ _ from ho) hb (by decide) _ e rfl;have hp17:∀ {w':World},Ext w3 w'->HL w' [(p.2.1,.int .u32 ((p.2.2:Nat):Int))]:=fun he q hq=>by rw[mem_singleton.1 hq];exact hcell3 p hmem he
  have fin:∀ {w':World} {A1' A2':Option Addr} {c1' c2':Nat},ug w3 w' A1' A2' (i+1+1) c1' c2' ((0::(sp.take i).map fun p=>p.1)++[p.1]) ((bn::(sp.take i).map fun p=>p.2.2)++[p.2.2])->Owni spE 135 w' w5.heap.size Asp sp.length ksp (sp.map spP)->
    (∃ (j:Nat) (B1 B2:Option Addr) (d1 d2:Nat),j<=sp.length/\(((A1',i+1+1,c1'),(A2',i+1+1,c2'),((i+1:Nat):Int),()):SLC×SLC×Int×Unit)=((B1,j+1,d1),(B2,j+1,d2),(j:Int),())/\ug w3 w' B1 B2 (j+1) d1 d2 (0::(sp.take j).map fun p=>p.1) (bn::(sp.take j).map fun p=>p.2.2)/\Owni spE 135 w' w5.heap.size Asp sp.length ksp (sp.map spP)):=by
   intro w' A1' A2' c1' c2' h1 h2;refine⟨i+1,A1',A2',c1',c2',by omega,rfl,?_,h2⟩;rw[tk,map_append,map_append];exact h1
  have spk:∀ {wa wb:World} {A:Option Addr} {n c0:Nat} {xs:List Nat},Owni spE 135 wa w5.heap.size Asp sp.length ksp (sp.map spP)->Owni (zx .u64) 40 wa w3.heap.size A n c0 xs->(∀ q,orow A≠some q->q<wa.heap.size->wb.heap[q]?=wa.heap[q]?)->Owni spE 135 wb w5.heap.size Asp sp.length ksp (sp.map spP):=fun h1 h2 h3=>h1.cong (fun j hj=>h3 j (fun e=>h1.ne h2 (by decide) j hj e) (h1.yg j hj));have bk:∀ {wa wb:World} {A:Option Addr} {n c0:Nat} {xs:List Nat},Blk wa r14 [.int .u64 (p.1:Int),.pointer (some p.2.1)] 135->Owni (zx .u64) 40 wa w3.heap.size A n c0 xs->(∀ q,orow A≠some q->q<wa.heap.size->wb.heap[q]?=wa.heap[q]?)->Blk wb r14 [.int .u64 (p.1:Int),.pointer (some p.2.1)] 135:=fun h1 h2 h3=>(h3 r14 (neR h2 h1) h1.lt).trans h1;refine⟨?_,?_⟩
  ·refine zq fun r19 wa hb19 hea hra hza=>?_;have hba:=hb14.ext hea;have hta:=ht9.ext' hea;have hsa:=hs9.ext hea;refine jC (hp17 hta.ext) (yY hba rfl) ?_;refine⟨?_,?_⟩
   ·refine zdZ hta hb19 (by omega) ?_;intro B1 d1 wb hkb hvb hne heb hsb hkeep;have hbb:=bk hba hta.ks hkeep;have hspb:=spk hsa hta.ks hkeep;refine jC (hp17 heb) (yY hbb rfl) ?_;refine zq fun r21 wc hb21 hec hrc hzc=>?_;refine xQ (yL (hbb.ext hec) rfl) ?_;refine zd0 (hkb.ext hec) (hvb.ext hec) hne (heb.trans hec) hb21 (by omega) ?_;intro B2 d2 wd htd hsd hkeepd;exact⟨fin htd (spk (hspb.ext hec) (hvb.ext hec) hkeepd),by omega⟩
   ·refine zq fun r23 wb hb23 heb hrb hzb=>?_;have hbb:=hba.ext heb;have htb:=hta.ext' heb;have hspb:=hsa.ext heb;refine xQ (yL hbb rfl) ?_;refine zdZ htb (hb19.ext heb) (by omega) ?_;intro B1 d1 wc hkc hvc hne hec hsc hkeep;have hbc:=bk hbb htb.ks hkeep;have hspc:=spk hspb htb.ks hkeep;refine jC (hp17 hec) (yY hbc rfl) ?_;have hb23':Blk wc r23 _ _:=(hkeep r23 (fun e=>by have:=hta.ks.yg _ e;have:=hb23.lt;omega) hb23.lt).trans hb23;refine zd0 hkc hvc hne hec hb23' (by omega) ?_;intro B2 d2 wd htd hsd hkeepd;exact⟨fin htd (spk hspc hvc hkeepd),by omega⟩
  ·refine zq fun r26 wa hb26 hea hra hza=>?_;have hba:=hb14.ext hea;have hta:=ht9.ext' hea;have hsa:=hs9.ext hea;refine xQ (yL hba rfl) ?_;refine zq fun r27 wb hb27 heb hrb hzb=>?_;have hbb:=hba.ext heb;have htb:=hta.ext' heb;have hspb:=hsa.ext heb;refine jC (hp17 htb.ext) (yY hbb rfl) ?_;refine zdZ htb hb27 (by omega) ?_;intro B1 d1 wc hkc hvc hne hec hsc hkeep;have hbc:=bk hbb htb.ks hkeep;have hspc:=spk hspb htb.ks hkeep;refine jC (hp17 hec) (yY hbc rfl) ?_;have hb26b:=hb26.ext heb;have hb26':Blk wc r26 _ _:=(hkeep r26 (fun e=>by have:=ht9.ks.yg _ e;omega) hb26b.lt).trans hb26b;refine zd0 hkc hvc hne hec hb26' (by omega) ?_;intro B2 d2 wd htd hsd hkeepd;exact⟨fin htd (spk hspc hvc hkeepd),by omega⟩
 ·obtain rfl:i=sp.length:=by omega
  refine zd (decide_eq_false (by omega)) ?_;rw[take_of_length_le (by omega)]at ht7;have hks:sp.map (fun p=>p.1)=qJ c:=by unfold qJ;rw[<- hkv,map_map];rfl
  have hvs:sp.map (fun p=>p.2.2)=zU c:=by unfold zU;rw[<- hkv,map_map];rfl
  rw[hks,hvs]at ht7;have hkl:(qJ c).length=sp.length:=by rw[<- hks,length_map]
  have hvl:(zU c).length=sp.length:=by rw[<- hvs,length_map]
  obtain⟨hpw,hk200⟩:=zpi ht16 hs16;have h37:=h3.ext ht7.ext;have h3lt:=h3.lt;have hs37:=ht7.ext.size;have hrow:∀ {A:Option Addr} {n c0:Nat} {xs:List Nat},Owni (zx .u64) 40 w7 w3.heap.size A n c0 xs->∀ a,A=some a->¬F3 a.block/\a.block<w7.heap.size:=fun ho a ha=>by
   have e1:=ho.row a.block (by rw[ha];rfl);have e2:=ho.yg a.block (by rw[ha];rfl);exact⟨fun hf=>by have:=h3lt _ hf;omega,e2⟩
  have hr0:S2.r0=S.r0:=hMk.r0;have hsup:=hMk.sup;have hfr:=hMk.free;have hpn:=hMk.pen;rw[hmk]at hll;have hnp:ls.length<=65537:=by
   have:=(zcz (len:=(xI c).length) q1 hmost).2;omega
  refine zb (zil (R:=R) (ks:=0::qJ c) (vs:=bn::zU c) (x:=(A1,sp.length+1,c1)) (y:=(A2,sp.length+1,c2)) h37 hG2 (by omega) ht7.ks.sl ht7.ks.le.1 ht7.vs.sl (hrow ht7.ks) (hrow ht7.vs) (by simp[hkl,hvl]) (fun k hk=>by have:=hk200 k hk;omega) (by simp) (by rw[hr0,length_cons];omega) (zhs hpw) (by rw[hsup];omega) (fun v hv=>?_)) ?_
  ·rcases mem_cons.1 hv with rfl|hv
   ·rw[hone];omega
   ·have hu:=hg.good.well.root v (mem_append_left _ hv);rw[(hMk.used hg.good hu).2.1];exact h6 v hv
  rintro _ w8 ⟨S',n,ls2,rfl,hB,hst⟩;refine⟨((n:Int),0,()),rfl,.inr ⟨h0,S',n,ls++ls2,rfl,⟨hMk.trans hB.made,hB.great,⟨hIs,bn,bks,hB.tree,?_⟩,?_⟩,yM.trans (Only.trans hO03 (Only.zz (F:=F) ht7.ext) (fun j hj=>.inl hj)) (fun k hk=>?_) hst⟩⟩
  ·have hub:=hG2.good.well.root bn mem_cons_self;refine hBl.keep (hB.made.r0) (fun k hk=>?_);rcases hk with rfl|hk
   ·exact(hB.made.used hG2.good hub).1
   ·have hkid:yh S2.page bn=bks:=by unfold yh;rw[hBl.idx]
    exact(hB.made.used hG2.good ((hG2.good.well.good bn hub).2 k (by rw[hkid];exact hk))).1
  ·have:=hB.few;rw[length_append];omega
  ·rcases hF30 k hk with e|e
   ·exact .inl e
   ·exact .inr e
end V
/- Contracts of the package catalog:Get;the entries of a tree,gathered. -/
namespace V
open Go Go.Proofs Go.RowKit Crc
variable {w w':World} {b db:Nat} {S:Spa} {F:Nat->Prop}
structure Gath (w0 w:World) (r1 r5 r6:Nat) (i:Nat) (ks vs:List Nat) (A1 A2:Option Addr) (c1 c2:Nat):Prop where
 ext:Ext w0 w
 b1:Blk w r1 (zB (none,0,0) (none,0,0)) 30
 b5:Blk w r5 [.slice A1 i c1] 138
 b6:Blk w r6 [.slice A2 i c2] 47
 ks:Owni (zx .u64) 40 w (r6+1) A1 i c1 ks
 vs:Owni (zx .u32) 39 w (r6+1) A2 i c2 vs
theorem Gath.only {G:Nat->Prop} {w0:World} {r1 r5 r6 i:Nat} {ks vs:List Nat} {A1 A2:Option Addr} {c1 c2:Nat} (h:Gath w0 w r1 r5 r6 i ks vs A1 A2 c1 c2) (o:Only G w w') (h0:w0.heap.size<=r1) (hr:r1<r5/\r5<r6) (hG:∀ k,G k->r6<k/\orow A1≠some k/\orow A2≠some k):Gath w0 w' r1 r5 r6 i ks vs A1 A2 c1 c2:=
 ⟨Only.ext h.ext o (fun j hj=>by have:=(hG j hj).1;omega),h.b1.only o (fun e=>by have:=(hG _ e).1;omega),h.b5.only o (fun e=>by have:=(hG _ e).1;omega),h.b6.only o (fun e=>by have:=(hG _ e).1;omega),
  h.ks.only o (fun j hj e=>(hG j e).2.1 hj),h.vs.only o (fun j hj e=>(hG j e).2.2 hj)⟩
theorem Gath.ext' {w0:World} {r1 r5 r6 i:Nat} {ks vs:List Nat} {A1 A2:Option Addr} {c1 c2:Nat} (h:Gath w0 w r1 r5 r6 i ks vs A1 A2 c1 c2) (he:Ext w w'):Gath w0 w' r1 r5 r6 i ks vs A1 A2 c1 c2:=⟨h.ext.trans he,h.b1.ext he,h.b5.ext he,h.b6.ext he,h.ks.ext he,h.vs.ext he⟩
theorem zd1 {w0:World} {r1 r5 r6 i k rk:Nat} {ks vs:List Nat} {A1 A2:Option Addr} {c1 c2:Nat} {t1:TypeId} {K1:SLC->WP} (h:Gath w0 w r1 r5 r6 i ks vs A1 A2 c1 c2) (hr:w0.heap.size<=r1/\r1<r5/\r5<r6) (hk:Blk w rk [.int .u64 (k:Int)] t1) (hn:i<=1000000)
  (hK:∀ A c w1,Owni (zx .u64) 40 w1 (r6+1) A (i+1) c (ks++[k])->Blk w1 r1 (zB (none,0,0) (none,0,0)) 30->Blk w1 r5 [.slice A1 i c1] 138->Blk w1 r6 [.slice A2 i c2] 47->Owni (zx .u32) 39 w1 (r6+1) A2 i c2 vs->Only (fun q=>orow A1=some q) w w1->(∀ q,orow A=some q->orow A1=some q\/w.heap.size<=q)->K1 (A,i+1,c) w1):
  zv prog (Builtin.append_ #[138,138] 138 #[.slice A1 i c1,.slice (some (aD rk)) 1 1]) .slc K1 w:=by
 have hx:Sli (zx .u64) w (some ⟨rk,0,none⟩) 1 [k]:=Sli.xA (E:=zx .u64) (xs:=[k]) hk rfl (by omega);refine xk kC h.ks (by have:=h.b6.lt;omega) hx (by omega) (by omega) ?_;intro A c w1 ho hg _;have hrow:=h.ks.row;exact hK A c w1 ho (h.b1.grown hg.grown (fun e=>by have:=hrow _ e.symm;omega)) (h.b5.grown hg.grown (fun e=>by have:=hrow _ e.symm;omega)) (h.b6.grown hg.grown (fun e=>by have:=hrow _ e.symm;omega)) (h.vs.grown hg.grown (fun j hj=>h.ks.ne h.vs (by decide) j hj)) (Only.zY hg.grown (fun q hq=>.inl hq)) hg.next
theorem zj9 {w0:World} {r1 r5 r6 i k v:Nat} {ks vs:List Nat} {A1 A2:Option Addr} {c1 c2:Nat} {N:WP} (h:Gath w0 w r1 r5 r6 i ks vs A1 A2 c1 c2) (hr:w0.heap.size<=r1/\r1<r5/\r5<r6) (hn:i<=1000000) (hv32:v<4294967296)
  (hN:∀ A1' A2' c1' c2' w',Gath w0 w' r1 r5 r6 (i+1) (ks++[k]) (vs++[v]) A1' A2' c1' c2'->Only (fun q=>q=r5\/q=r6\/orow A1=some q\/orow A2=some q) w w'->(∀ q,orow A1'=some q->orow A1=some q\/w.heap.size<=q)->(∀ q,orow A2'=some q->orow A2=some q\/w.heap.size<=q)->N w'):
  (zF<|ldW .slc (aD r5) fun(u14:SLC)=>ldW .slc (aD r6) fun(u15:SLC)=>
   vu (zi (.cells #[.int .u64 (k:Int)] 40) fun r16=>zu [[((aD r6),.slice u15.1 u15.2.1 u15.2.2)],[((aD r5),.slice u14.1 u14.2.1 u14.2.2)]]<|
    vu (zv prog (Builtin.append_ #[138,138] 138 #[.slice u14.1 u14.2.1 u14.2.2,.slice (some (aD r16)) 1 1]) .slc fun(u17:SLC)=>
     zu [[((aD r6),.slice u15.1 u15.2.1 u15.2.2)]]<|zi (.cells #[.int .u32 (wrap .u32 (v:Int))] 39) fun r18=>
     zu [[((aD r6),.slice u15.1 u15.2.1 u15.2.2)],[((aD r5),.slice u14.1 u14.2.1 u14.2.2)]]<|
     zv prog (Builtin.append_ #[47,47] 47 #[.slice u15.1 u15.2.1 u15.2.2,.slice (some (aD r18)) 1 1]) .slc fun(u19:SLC)=>
     stW (aD r5) (.slice u17.1 u17.2.1 u17.2.2)<|stW (aD r6) (.slice u19.1 u19.2.1 u19.2.2)<|N)
    (zi (.cells #[.int .u32 (wrap .u32 (v:Int))] 39) fun r20=>
     zu [[((aD r6),.slice u15.1 u15.2.1 u15.2.2)],[((aD r5),.slice u14.1 u14.2.1 u14.2.2)]]<|
     zv prog (Builtin.append_ #[138,138] 138 #[.slice u14.1 u14.2.1 u14.2.2,.slice (some (aD r16)) 1 1]) .slc fun(u21:SLC)=>
     zu [[((aD r6),.slice u15.1 u15.2.1 u15.2.2)]]<|
     zv prog (Builtin.append_ #[47,47] 47 #[.slice u15.1 u15.2.1 u15.2.2,.slice (some (aD r20)) 1 1]) .slc fun(u22:SLC)=>
     stW (aD r5) (.slice u21.1 u21.2.1 u21.2.2)<|stW (aD r6) (.slice u22.1 u22.2.1 u22.2.2)<|N))
   (zi (.cells #[.int .u32 (wrap .u32 (v:Int))] 39) fun r23=>
    zu [[((aD r6),.slice u15.1 u15.2.1 u15.2.2)],[((aD r5),.slice u14.1 u14.2.1 u14.2.2)]]<|
    zi (.cells #[.int .u64 (k:Int)] 40) fun r24=>zu [[((aD r6),.slice u15.1 u15.2.1 u15.2.2)],[((aD r5),.slice u14.1 u14.2.1 u14.2.2)]]<|
    zv prog (Builtin.append_ #[138,138] 138 #[.slice u14.1 u14.2.1 u14.2.2,.slice (some (aD r24)) 1 1]) .slc fun(u25:SLC)=>
    zu [[((aD r6),.slice u15.1 u15.2.1 u15.2.2)]]<|
    zv prog (Builtin.append_ #[47,47] 47 #[.slice u15.1 u15.2.1 u15.2.2,.slice (some (aD r23)) 1 1]) .slc fun(u26:SLC)=>
    stW (aD r5) (.slice u25.1 u25.2.1 u25.2.2)<|stW (aD r6) (.slice u26.1 u26.2.1 u26.2.2)<|N)) w:=by
 refine zS fun wd hed hzd hhd=>?_;have hd:=h.ext' hed;refine zO ((A1,i,c1):SLC) hd.b5 (by rfl) (zO ((A2,i,c2):SLC) hd.b6 (by rfl) ?_);have hv:wrap .u32 (v:Int)=(v:Int):=by rw[wrap_u32];omega
 rw[hv];have hs0:=hed.size
 -- the values' append, and the boxes
 have fin:∀ {A:Option Addr} {c rv:Nat} {wa wb:World} {t:TypeId},Ext wd wa->Owni (zx .u64) 40 wb (r6+1) A (i+1) c (ks++[k])->Blk wb r1 (zB (none,0,0) (none,0,0)) 30->Blk wb r5 [.slice A1 i c1] 138->Blk wb r6 [.slice A2 i c2] 47->Owni (zx .u32) 39 wb (r6+1) A2 i c2 vs->Only (fun q=>orow A1=some q) wa wb->(∀ q,orow A=some q->orow A1=some q\/wa.heap.size<=q)->Blk wb rv [.int .u32 (v:Int)] t->
   zv prog (Builtin.append_ #[47,47] 47 #[.slice A2 i c2,.slice (some (aD rv)) 1 1]) .slc (fun(u19:SLC)=>stW (aD r5) (.slice A (i+1) c)<|stW (aD r6) (.slice u19.1 u19.2.1 u19.2.2)<|N) wb:=by
  intro A c rv wa wb t hea ho g1 g5 g6 gv oab hAn hb;have hx:Sli (zx .u32) wb (some ⟨rv,0,none⟩) 1 [v]:=Sli.xA (E:=zx .u32) (xs:=[v]) hb rfl (by omega);refine xk jF gv (by have:=g6.lt;omega) hx (by omega) (by omega) ?_;intro A' c' w1 ho' hg _;have hrow:=gv.row;have e1:=g1.grown hg.grown (fun e=>by have:=hrow _ e.symm;omega);have e5:=g5.grown hg.grown (fun e=>by have:=hrow _ e.symm;omega);have e6:=g6.grown hg.grown (fun e=>by have:=hrow _ e.symm;omega);have ek:=ho.grown hg.grown (fun j hj=>gv.ne ho (by decide) j hj);have ob1:Only (fun q=>orow A2=some q) wb w1:=Only.zY hg.grown (fun q hq=>.inl hq);refine stE (o:=0) e5 rfl (by show 0<1;omega) ?_;intro w2 f5 o2;refine stE (o:=0) (e6.only o2 (by omega)) rfl (by show 0<1;omega) ?_;intro w3 f6 o3;have hsz1:=oab.2.2.2.1;have hsz2:=hg.grown.size;have hsz0:=hea.size;have rA:=ho.row;have rA':=ho'.row;have oall:Only (fun q=>q=r5\/q=r6\/orow A1=some q\/orow A2=some q) w w3:=by
   refine Only.trans (Only.trans (Only.trans (Only.trans (Only.zz (hed.trans hea)) (oab.mono (fun q hq=>.inr (.inr (.inl hq)))) (fun q hq=>.inl hq)) (ob1.mono (fun q hq=>.inr (.inr (.inr hq)))) (fun q hq=>.inl hq)) (o2.mono (fun q hq=>.inl hq)) (fun q hq=>.inl hq)) (o3.mono (fun q hq=>.inr (.inl hq))) (fun q hq=>.inl hq)
  have k1:=h.ks.row;have k2:=h.vs.row;refine hN A A' c c' w3 ⟨Only.ext h.ext oall (fun q hq=>?_),(e1.only o2 (by omega)).only o3 (by omega),f5.only o3 (by omega),f6,(ek.only o2 (fun j hj e=>by have:=rA j hj;have:j=r5:=e;omega)).only o3 (fun j hj e=>by have:=rA j hj;have:j=r6:=e;omega),(ho'.only o2 (fun j hj e=>by have:=rA' j hj;have:j=r5:=e;omega)).only o3 (fun j hj e=>by have:=rA' j hj;have:j=r6:=e;omega)⟩ oall (fun q hq=>?_) (fun q hq=>?_)
  ·rcases hq with e|e|e|e
   ·omega
   ·omega
   ·have:=k1 q e;omega
   ·have:=k2 q e;omega
  ·rcases hAn q hq with e|e
   ·exact .inl e
   ·exact .inr (by omega)
  ·rcases hg.next q hq with e|e
   ·exact .inl e
   ·exact .inr (by omega)
 refine⟨?_,?_⟩
 ·refine zq fun r16 wa hb16 hea hra hza=>?_;have ha:=hd.ext' hea;refine jC (yL ha.b6 rfl) (yL ha.b5 rfl) ?_;refine⟨?_,?_⟩
  ·refine zd1 ha hr hb16 hn ?_;intro A c wb ho g1 g5 g6 gv oab hAn;refine xQ (yL g6 rfl) ?_;refine zq fun r18 wc hb18 hec hrc hzc=>?_;refine jC (yL (g6.ext hec) rfl) (yL (g5.ext hec) rfl) ?_;exact fin hea (ho.ext hec) (g1.ext hec) (g5.ext hec) (g6.ext hec) (gv.ext hec) (Only.trans oab (Only.zz (F:=fun q=>orow A1=some q) hec) (fun q hq=>.inl hq)) hAn hb18
  ·refine zq fun r20 wb hb20 heb hrb hzb=>?_;have hb:=ha.ext' heb;refine jC (yL hb.b6 rfl) (yL hb.b5 rfl) ?_;refine zd1 hb hr (hb16.ext heb) hn ?_;intro A c wc ho g1 g5 g6 gv oab hAn;refine xQ (yL g6 rfl) ?_;exact fin (hea.trans heb) ho g1 g5 g6 gv oab hAn (hb20.only oab (fun e=>by have:=ha.ks.yg _ e;omega))
 ·refine zq fun r23 wa hb23 hea hra hza=>?_;have ha:=hd.ext' hea;refine jC (yL ha.b6 rfl) (yL ha.b5 rfl) ?_;refine zq fun r24 wb hb24 heb hrb hzb=>?_;have hb:=ha.ext' heb;refine jC (yL hb.b6 rfl) (yL hb.b5 rfl) ?_;refine zd1 hb hr hb24 hn ?_;intro A c wc ho g1 g5 g6 gv oab hAn;refine xQ (yL g6 rfl) ?_;exact fin (hea.trans heb) ho g1 g5 g6 gv oab hAn ((hb23.ext heb).only oab (fun e=>by have:=hd.ks.yg _ e;omega))
end V
/- A field of a row of one's own is set. -/
namespace V
open Go Go.Proofs Go.RowKit Crc
variable {w w':World} {b db:Nat} {S:Spa} {F:Nat->Prop} {R:List Nat}
theorem Enc.zhu {α:Type} (E:Enc α) {x x':α} {v:Value} {j:Nat} (hj:j<E.k) (hx:E.f x'=(E.f x).set j v):∀ (xs:List α) (i:Nat),xs[i]?=some x->(E.flat xs).set (i*E.k+j) v=E.flat (xs.set i x')
 |[],i,h=>by simp at h
 |a::r,0,h=>by
  have ha:a=x:=by simpa using h
  subst ha;show(E.f a++E.flat r).set (0*E.k+j) v=E.f x'++E.flat r;rw[Nat.zero_mul,Nat.zero_add,List.set_append_left _ _ (by rw[E.len];exact hj),hx]
 |a::r,i+1,h=>by
  have ih:=Enc.zhu E hj hx r i (by simpa using h);show(E.f a++E.flat r).set ((i+1)*E.k+j) v=E.f a++E.flat (r.set i x');rw[List.set_append_right _ _ (by rw[E.len,Nat.add_mul,Nat.one_mul];omega),E.len,show(i+1)*E.k+j-E.k=i*E.k+j by rw[Nat.add_mul,Nat.one_mul];omega,ih]
theorem Owni.stF {α:Type} {E:Enc α} {e:TypeId} {B0:Nat} {A:Option Addr} {n c i j k:Nat} {xs:List α} {x x':α} {v:Value} {K:WP} (h:Owni E e w B0 A n c xs) (hk:E.k=k) (hi:xs[i]?=some x) (hj:j<k) (hx:E.f x'=(E.f x).set j v)
  (hK:∀ w',Owni E e w' B0 A n c (xs.set i x')->Only (fun q=>orow A=some q) w w'->K w'):stW (((adr A).add (i*k)).add j) v K w:=by
 subst hk;have hl:=h.len;have hin:i<xs.length:=(List.getElem?_eq_some_iff.1 hi).1;obtain⟨g,hA⟩:∃ g,A=some ⟨g,0,none⟩:=by
  rcases h.2 with ⟨hv,h2⟩|⟨g,cap,cur,hv,_⟩
  ·have:n=0:=h2;omega
  ·injection hv with hv
   exact⟨g,hv⟩
 subst hA;have ha:((adr (some ⟨g,0,none⟩)).add (i*E.k)).add j=(⟨g,i*E.k+j,none⟩:Addr):=by
  show((aD g).add (i*E.k)).add j=_;rw[zw,zw,Nat.zero_add]
 rw[ha];have hlt:i*E.k+j<(E.flat xs).length:=by
  rw[Enc.yz];have:(i+1)*E.k<=xs.length*E.k:=Nat.mul_le_mul_right _ hin;rw[Nat.add_mul,Nat.one_mul]at this;omega
 have hst:=World.ownsRow.stored (show w.ownsRow B0 e E.k (.slice (some ⟨g,0,none⟩) n c) n (E.flat xs) from h) (i*E.k+j) v;refine⟨?_,World.ownsRow.frozenAt (show w.ownsRow B0 e E.k (.slice (some ⟨g,0,none⟩) n c) n (E.flat xs) from h) _,hK _ ?_ (Only.zY hst.2 (fun q hq=>.inl (by injection hq with hq;rw[<- hq];rfl)))⟩
 ·rw[World.ownsRow.cellAt (show w.ownsRow B0 e E.k (.slice (some ⟨g,0,none⟩) n c) n (E.flat xs) from h) _ (by rw[<- hl,<- Enc.yz];exact hlt)];exact⟨_,List.getElem?_eq_getElem hlt⟩
 ·have:=hst.1;rw[Enc.zhu E hj hx xs i hi]at this;exact this
end V
/- Catalogs whose roots are put in one by one:plain. -/
namespace V
open Go Go.Proofs Go.RowKit Crc
def nzT (es:List Ent) (j:Nat):Nat:=(spT none es j).length
def nzS (ss:List Snp) (j:Nat):Nat:=(spS none ss j).length
theorem zbF (A:Option Addr) (es:List Ent) (j:Nat):(spT A es j).length=nzT es j:=by
 have:=congrArg List.length (zho A none es j)
 rwa [length_map,length_map]at this
theorem zeG (A:Option Addr) (ss:List Snp) (j:Nat):(spS A ss j).length=nzS ss j:=by
 have:=congrArg List.length (zhp A none ss j)
 rwa [length_map,length_map]at this
theorem zhv (es:List Ent) (j:Nat):nzT es (j+1)=nzT es j+(if (es.getD j yu).2.2.1=0 then 0 else 1):=by
 unfold nzT;rw[jg,length_append];split<;>rfl
theorem zhw (ss:List Snp) (j:Nat):nzS ss (j+1)=nzS ss j+(if (ss.getD j zP).2=0 then 0 else 1):=by
 unfold nzS;rw[jM,length_append];split<;>rfl
theorem zhx (es:List Ent) (j:Nat):∀ d,nzT es j<=nzT es (j+d)
 |0=>Nat.le_refl _
 |d+1=>Nat.le_trans (zhx es j d) (by rw[<- Nat.add_assoc,zhv];omega)
theorem zhy (ss:List Snp) (j:Nat):∀ d,nzS ss j<=nzS ss (j+d)
 |0=>Nat.le_refl _
 |d+1=>Nat.le_trans (zhy ss j d) (by rw[<- Nat.add_assoc,zhw];omega)
theorem zeH {es:List Ent} {j k:Nat} (h:j<k) (hj:(es.getD j yu).2.2.1≠0):nzT es j<nzT es k:=by
 have h1:=zhx es (j+1) (k-(j+1));rw[show j+1+(k-(j+1))=k by omega,zhv,if_neg hj]at h1;omega
theorem zhz {ss:List Snp} {j k:Nat} (h:j<k) (hj:(ss.getD j zP).2≠0):nzS ss j<nzS ss k:=by
 have h1:=zhy ss (j+1) (k-(j+1));rw[show j+1+(k-(j+1))=k by omega,zhw,if_neg hj]at h1;omega
theorem zlb {A:Option Addr} {es:List Ent}:∀ {n i:Nat} {p:Spt},(spT A es n)[i]?=some p->∃ j,j<n/\nzT es j=i/\(es.getD j yu).2.2.1≠0/\p=(1+j,vb A j,(es.getD j yu).2.2.1)
 |0,i,p,h=>by simp[spT]at h
 |n+1,i,p,h=>by
  rw[jg]at h
  by_cases hi:i<(spT A es n).length
  ·rw[List.getElem?_append_left hi]at h;obtain⟨j,h1,h2⟩:=zlb h;exact⟨j,by omega,h2⟩
  ·rw[List.getElem?_append_right (by omega)]at h;split at h
   ·simp at h
   ·rename_i hn;have h0:i-(spT A es n).length=0:=by
     have:=(List.getElem?_eq_some_iff.1 h).1;simp at this;omega
    rw[h0]at h;refine⟨n,by omega,by rw[<- zbF A];omega,hn,?_⟩
    simpa using h.symm
theorem zlc {A:Option Addr} {ss:List Snp}:∀ {n i:Nat} {p:Spt},(spS A ss n)[i]?=some p->∃ j,j<n/\nzS ss j=i/\(ss.getD j zP).2≠0/\p=(100+j,vc A j,(ss.getD j zP).2)
 |0,i,p,h=>by simp[spS]at h
 |n+1,i,p,h=>by
  rw[jM]at h
  by_cases hi:i<(spS A ss n).length
  ·rw[List.getElem?_append_left hi]at h;obtain⟨j,h1,h2⟩:=zlc h;exact⟨j,by omega,h2⟩
  ·rw[List.getElem?_append_right (by omega)]at h;split at h
   ·simp at h
   ·rename_i hn;have h0:i-(spS A ss n).length=0:=by
     have:=(List.getElem?_eq_some_iff.1 h).1;simp at this;omega
    rw[h0]at h;refine⟨n,by omega,by rw[<- zeG A];omega,hn,?_⟩
    simpa using h.symm
def vW (b:Bool) (r:Nat):Nat:=if b then r else min r 1
def zbG (es es':List Ent) (i:Nat):Prop:=es'.length=es.length/\∀ j,j<es.length->es'.getD j yu=((es.getD j yu).1,(es.getD j yu).2.1,vW (decide (nzT es j<i)) (es.getD j yu).2.2.1,(es.getD j yu).2.2.2.1,(es.getD j yu).2.2.2.2)
def zbH (n0:Nat) (ss ss':List Snp) (i:Nat):Prop:=ss'.length=ss.length/\∀ j,j<ss.length->ss'.getD j zP=((ss.getD j zP).1,vW (decide (n0+nzS ss j<i)) (ss.getD j zP).2)
theorem getD_map' {α β:Type} (f:α->β) (l:List α) (j:Nat) (d:α) (d':β) (h:j<l.length):(l.map f).getD j d'=f (l.getD j d):=by
 rw[getD_eq_getElem?_getD,List.getElem?_map,List.getElem?_eq_getElem h,getD_eq_getElem?_getD,List.getElem?_eq_getElem h];rfl
theorem zpR (es:List Ent):zbG es (es.map jY) 0:=by
 refine⟨by simp,fun j hj=>?_⟩;rw[getD_map' jY es j yu yu hj,decide_eq_false (by omega)];rfl
theorem zpS (n0:Nat) (ss:List Snp):zbH n0 ss (ss.map kq) 0:=by
 refine⟨by simp,fun j hj=>?_⟩;rw[getD_map' kq ss j zP zP hj,decide_eq_false (by omega)];rfl
theorem zhA {α:Type} {l l':List α} (d:α) (h:l.length=l'.length) (hh:∀ j,j<l'.length->l.getD j d=l'.getD j d):l=l':=by
 refine List.ext_getElem h (fun j h1 h2=>?_);have:=hh j h2;rw[getD_eq_getElem?_getD,List.getElem?_eq_getElem h1,getD_eq_getElem?_getD,List.getElem?_eq_getElem h2]at this;exact this
theorem zhB {es es':List Ent} {i:Nat} (h:zbG es es' i) (hi:nzT es es.length<=i):es'=es:=by
 refine zhA yu h.1 (fun j hj=>?_);rw[h.2 j hj]
 by_cases h0:(es.getD j yu).2.2.1=0
 ·rw[h0];have:vW (decide (nzT es j<i)) 0=0:=by unfold vW;split<;>simp
  rw[this];refine Prod.ext rfl (Prod.ext rfl (Prod.ext h0.symm rfl))
 ·have:=zeH (k:=es.length) hj h0;rw[decide_eq_true (show nzT es j<i by omega)];rfl
theorem znc {n0:Nat} {ss ss':List Snp} {i:Nat} (h:zbH n0 ss ss' i) (hi:n0+nzS ss ss.length<=i):ss'=ss:=by
 refine zhA zP h.1 (fun j hj=>?_);rw[h.2 j hj]
 by_cases h0:(ss.getD j zP).2=0
 ·rw[h0];have:vW (decide (n0+nzS ss j<i)) 0=0:=by unfold vW;split<;>simp
  rw[this];exact Prod.ext rfl h0.symm
 ·have:=zhz (k:=ss.length) hj h0;rw[decide_eq_true (show n0+nzS ss j<i by omega)];rfl
theorem kK {α:Type} {l:List α} {j k:Nat} {x d:α} (hj:j<l.length):(l.set j x).getD k d=if j=k then x else l.getD k d:=by
 rw[getD_eq_getElem?_getD,List.getElem?_set]
 by_cases h:j=k
 ·subst h;rw[if_pos rfl,if_pos hj,if_pos rfl];rfl
 ·rw[if_neg h,if_neg h,<- getD_eq_getElem?_getD]
theorem zbG.step {es es':List Ent} {i j:Nat} (h:zbG es es' i) (hj:j<es.length) (hi:nzT es j=i) (hn:(es.getD j yu).2.2.1≠0):zbG es (es'.set j (es.getD j yu)) (i+1):=by
 refine⟨by rw[length_set];exact h.1,fun k hk=>?_⟩;rw[kK (by rw[h.1];exact hj)]
 by_cases e:j=k
 ·subst e;rw[if_pos rfl,decide_eq_true (by omega)];rfl
 ·rw[if_neg e,h.2 k hk]
  by_cases h0:(es.getD k yu).2.2.1=0
  ·rw[h0];have:∀ b,vW b 0=0:=fun b=>by unfold vW;split<;>simp
   rw[this,this]
  ·have hne:nzT es k≠i:=fun e2=>by
    rcases Nat.lt_or_gt_of_ne e with hlt|hlt
    ·have:=zeH hlt hn;omega
    ·have:=zeH hlt h0;omega
   rw[show decide (nzT es k<i+1)=decide (nzT es k<i) from by
    by_cases h1:nzT es k<i
    ·rw[decide_eq_true h1,decide_eq_true (by omega)]
    ·rw[decide_eq_false h1,decide_eq_false (by omega)]]
theorem zbH.step {n0:Nat} {ss ss':List Snp} {i j:Nat} (h:zbH n0 ss ss' i) (hj:j<ss.length) (hi:n0+nzS ss j=i) (hn:(ss.getD j zP).2≠0):zbH n0 ss (ss'.set j (ss.getD j zP)) (i+1):=by
 refine⟨by rw[length_set];exact h.1,fun k hk=>?_⟩;rw[kK (by rw[h.1];exact hj)]
 by_cases e:j=k
 ·subst e;rw[if_pos rfl,decide_eq_true (by omega)];rfl
 ·rw[if_neg e,h.2 k hk]
  by_cases h0:(ss.getD k zP).2=0
  ·rw[h0];have:∀ b,vW b 0=0:=fun b=>by unfold vW;split<;>simp
   rw[this,this]
  ·have hne:n0+nzS ss k≠i:=fun e2=>by
    rcases Nat.lt_or_gt_of_ne e with hlt|hlt
    ·have:=zhz hlt hn;omega
    ·have:=zhz hlt h0;omega
   rw[show decide (n0+nzS ss k<i+1)=decide (n0+nzS ss k<i) from by
    by_cases h1:n0+nzS ss k<i
    ·rw[decide_eq_true h1,decide_eq_true (by omega)]
    ·rw[decide_eq_false h1,decide_eq_false (by omega)]]
theorem zbG.more {es es':List Ent} {i:Nat} (h:zbG es es' i) (hi:nzT es es.length<=i):zbG es es' (i+1):=by
 have e:=zhB h hi;refine⟨h.1,fun j hj=>?_⟩;rw[e]
 by_cases h0:(es.getD j yu).2.2.1=0
 ·rw[h0];have:vW (decide (nzT es j<i+1)) 0=0:=by unfold vW;split<;>simp
  rw[this];exact Prod.ext rfl (Prod.ext rfl (Prod.ext h0 rfl))
 ·have:=zeH (k:=es.length) hj h0;rw[decide_eq_true (show nzT es j<i+1 by omega)];rfl
theorem zbH.more {n0:Nat} {ss ss':List Snp} {i:Nat} (h:zbH n0 ss ss' i) (hi:i<n0):zbH n0 ss ss' (i+1):=by
 refine⟨h.1,fun j hj=>?_⟩;rw[h.2 j hj,decide_eq_false (by omega),decide_eq_false (by omega)]
end V
/- Contracts of the package catalog:Get;a root is put in. -/
namespace V
open Go Go.Proofs Go.RowKit Crc
variable {w w':World} {b db:Nat} {S:Spa} {F:Nat->Prop} {R:List Nat}
theorem zhC (A:Option Addr) (es:List Ent):∀ i,i<=es.length->(spT A (es.map jY) i).map spP=(spT A es i).map spP
 |0,_=>rfl
 |i+1,h=>by
  rw[jg,jg,map_append,map_append,zhC A es i (by omega),getD_map' jY es i yu yu (by omega)];congr 1
  by_cases h0:(es.getD i yu).2.2.1=0
  ·rw[if_pos (show(jY (es.getD i yu)).2.2.1=0 by show min _ 1=0;omega),if_pos h0]
  ·rw[if_neg (show ¬(jY (es.getD i yu)).2.2.1=0 by show ¬min _ 1=0;omega),if_neg h0];rfl
theorem zhD (A:Option Addr) (ss:List Snp):∀ i,i<=ss.length->(spS A (ss.map kq) i).map spP=(spS A ss i).map spP
 |0,_=>rfl
 |i+1,h=>by
  rw[jM,jM,map_append,map_append,zhD A ss i (by omega),getD_map' kq ss i zP zP (by omega)];congr 1
  by_cases h0:(ss.getD i zP).2=0
  ·rw[if_pos (show(kq (ss.getD i zP)).2=0 by show min _ 1=0;omega),if_pos h0]
  ·rw[if_neg (show ¬(kq (ss.getD i zP)).2=0 by show ¬min _ 1=0;omega),if_neg h0];rfl
theorem zka (x y:SLC) (c:Cat):(zW x y (ones c)).map spP=(zW x y c).map spP:=by
 unfold zW ones;dsimp only;rw[map_append,map_append,length_map,length_map,zhC _ _ _ (Nat.le_refl _),zhD _ _ _ (Nat.le_refl _)]
theorem znd {x y:SLC} {c:Cat} {i:Nat} {p:Spt} (h:(zW x y c)[i]?=some p):
  (∃ j,j<c.1.length/\nzT c.1 j=i/\(c.1.getD j yu).2.2.1≠0/\p=(1+j,vb x.1 j,(c.1.getD j yu).2.2.1)/\i<nzT c.1 c.1.length)\/
  (∃ j,j<c.2.length/\nzT c.1 c.1.length+nzS c.2 j=i/\(c.2.getD j zP).2≠0/\p=(100+j,vc y.1 j,(c.2.getD j zP).2)/\nzT c.1 c.1.length<=i):=by
 unfold zW at h;have hl:=zbF x.1 c.1 c.1.length
 by_cases hi:i<(spT x.1 c.1 c.1.length).length
 ·rw[List.getElem?_append_left hi]at h;obtain⟨j,h1,h2,h3,h4⟩:=zlb h;exact .inl ⟨j,h1,h2,h3,h4,by omega⟩
 ·rw[List.getElem?_append_right (by omega)]at h;obtain⟨j,h1,h2,h3,h4⟩:=zlc h;exact .inr ⟨j,h1,by omega,h3,h4,by omega⟩
def zaj (w:World) (B0:Nat) (x y:SLC) (c:Cat) (i:Nat):Prop:=(∃ raws es,yP w B0 x raws es/\zbG c.1 es i)/\∃ ss,Owni zA 64 w B0 y.1 y.2.1 y.2.2 ss/\zbH (nzT c.1 c.1.length) c.2 ss i
theorem zpk {B0:Nat} {x y:SLC} {c:Cat} (h:z8 w B0 x y (ones c)):zaj w B0 x y c 0:=by
 obtain⟨⟨raws,h1⟩,h2⟩:=h;exact⟨⟨raws,_,h1,zpR c.1⟩,_,h2,zpS _ c.2⟩
theorem zld {B0:Nat} {x y:SLC} {c:Cat} {i:Nat} (h:zaj w B0 x y c i) (hi:(zW x y c).length<=i):z8 w B0 x y c:=by
 obtain⟨⟨raws,es,h1,h2⟩,ss,h3,h4⟩:=h;have hl:(zW x y c).length=nzT c.1 c.1.length+nzS c.2 c.2.length:=by
  unfold zW;rw[length_append,zbF,zeG]
 rw[zhB h2 (by omega)]at h1;rw[znc h4 (by omega)]at h3;exact⟨⟨raws,h1⟩,h3⟩
theorem zaj.ext {B0:Nat} {x y:SLC} {c:Cat} {i:Nat} (h:zaj w B0 x y c i) (he:Ext w w'):zaj w' B0 x y c i:=by
 obtain⟨⟨raws,es,h1,h2⟩,ss,h3,h4⟩:=h;exact⟨⟨raws,es,h1.ext he,h2⟩,ss,h3.ext he,h4⟩
theorem zpT {B0:Nat} {x y:SLC} {c:Cat} {i:Nat} {p:Spt} {K:WP} (h:zaj w B0 x y c i) (hp:(zW x y c)[i]?=some p)
  (hK:∀ w',zaj w' B0 x y c (i+1)->Only (fun q=>orow x.1=some q\/orow y.1=some q) w w'->K w'):stW p.2.1 (.int .u32 (p.2.2:Int)) K w:=by
 obtain⟨⟨raws,es,h1,h2⟩,ss,h3,h4⟩:=h;have hl:=h1.len;rcases znd hp with ⟨j,j1,j2,j3,rfl,j5⟩|⟨j,j1,j2,j3,rfl,j5⟩
 ·have hj:j<raws.length:=by rw[hl,h2.1];exact j1
  have g:raws[j]?=some (raws.getD j xf):=by rw[getD_eq_getElem?_getD,List.getElem?_eq_getElem hj];rfl
  have hE:=h1.at_ j (by rw[h2.1];exact j1);have hm:=h2.2 j j1;refine Owni.stF (x':=((raws.getD j xf).1,(raws.getD j xf).2.1,(c.1.getD j yu).2.2.1,(raws.getD j xf).2.2.2.1,(raws.getD j xf).2.2.2.2)) h1.row (k:=5) rfl g (by omega) (by rfl) ?_;intro w2 ho2 o2;refine hK w2 ⟨⟨_,_,⟨ho2,by rw[length_set,length_set];exact hl,fun k hk=>?_⟩,h2.step j1 j2 j3⟩,ss,h3.only o2 (fun q hq e=>h3.ne h1.row (by decide) q hq e),h4.more j5⟩ (o2.mono (fun q hq=>.inl hq));rw[length_set]at hk;rw[kK hj,kK (by rw[h2.1];exact j1)];have hc:∀ {r:Raw} {e:Ent},xU w B0 r e->xU w2 B0 r e:=fun hE=>⟨hE.name,hE.rest,hE.cols.only o2 (fun q hq e=>hE.cols.ne h1.row (by decide) q hq e)⟩
  by_cases e:j=k
  ·rw[if_pos e,if_pos e];have hE2:=hc hE;rw[hm]at hE2;refine⟨hE2.name,?_,hE2.cols⟩;have:=hE2.rest;dsimp only at this ⊢;rw[Prod.ext_iff]at this;rw[this.2]
  ·rw[if_neg e,if_neg e];exact hc (h1.at_ k hk)
 ·have hj:j<ss.length:=by rw[h4.1];exact j1
  have g:ss[j]?=some (ss.getD j zP):=by rw[getD_eq_getElem?_getD,List.getElem?_eq_getElem hj];rfl
  have hm:=h4.2 j j1;refine Owni.stF (x':=c.2.getD j zP) h3 (k:=2) rfl g (by omega) (by rw[hm];rfl) ?_;intro w2 ho2 o2;refine hK w2 ⟨⟨_,_,⟨h1.row.only o2 (fun q hq e=>h1.row.ne h3 (by decide) q hq e),hl,fun k hk=>?_⟩,h2.more j5⟩,_,ho2,h4.step j1 j2 j3⟩ (o2.mono (fun q hq=>.inr hq));have hE:=h1.at_ k hk;exact⟨hE.name,hE.rest,hE.cols.only o2 (fun q hq e=>hE.cols.ne h3 (by decide) q hq e)⟩
end V
/- Contracts of the package catalog:Get,whole. -/
namespace V
open Go Go.Proofs Go.RowKit Crc
variable {w w':World} {b db:Nat} {S:Spa} {F:Nat->Prop} {R:List Nat}
theorem zV.same {a c:Nat} (h:zV w b db S F) (hs:xc a c w w') (ha:¬F a) (hc:¬F c):zV w' b db S F:=
 h.only (G:=fun k=>k=a\/k=c) ⟨hs.1,hs.2.1,hs.2.2.1,Nat.le_of_eq hs.2.2.2.1.symm,fun k _ hk=>hs.2.2.2.2 k (fun e=>hk (.inl e)) (fun e=>hk (.inr e))⟩ (fun j hj e=>by rcases e with rfl|rfl;exact ha hj;exact hc hj)
theorem zpl (h:zV w b db S F) {n:Nat} {bs:ByteArray} {ks:List Nat} (hn:n<4294967296) (hd:uN S) (hB:Blob S n bs ks):Calls prog 88 #[.pointer (some ⟨b,0,none⟩),.int .u32 (n:Int)] w (Ret fun v w'=>v=.tuple #[.string bs,.int .i64 0]/\Ext w w'):=by
 obtain⟨q0,q1,q2,q3⟩:=xO hd;obtain⟨Fd,x,hb,hr,nb,nr,m,h'⟩:=h;have hp:=hB.plen hd;refine(zj8 h' hn hp.1 hp.2).mono (Ret.mono ?_);rintro v w' ⟨rfl,he⟩;rw[hB.get (by omega)];exact⟨rfl,he⟩
def zqh (w0:World) (b db:Nat) (S:Spa) (F:Nat->Prop) (r1 r5 r6 z:Nat) (ks vs:List Nat) (V:Nat->Prop) (i:Nat) (w:World):Prop:=
 zV w b db S F/\∃ A1 A2 c1 c2,Gath w0 w r1 r5 r6 i (ks.take i) (vs.take i) A1 A2 c1 c2/\(∀ k,V k\/k=z\/k=z+1->r6<k/\orow A1≠some k/\orow A2≠some k)/\z<=w.heap.size
theorem zhE {l:List Nat} {i:Nat} (h:i<l.length):l.take (i+1)=l.take i++[l.getD i 0]:=by
 rw[take_succ_eq_append_getElem h,getD_eq_getElem?_getD,List.getElem?_eq_getElem h];rfl
theorem zhF (h:zV w b db S F) (hg:Good S R) {n:Nat} {c:Cat} (hp:zeF S n c) (hu:zG S.sup.pages S.now n=true):
  Calls prog 43 #[.pointer (some ⟨b,0,none⟩),.int .u32 (n:Int)] w (Ret fun v w'=>(∃ x y,v=.tuple #[.agg (zB x y).toArray,.int .i64 0]/\z8 w' w.heap.size x y c)/\Ext w w'):=by
 obtain⟨hIs,bn,bks,hT,hBl⟩:=hp;have hn2:=(zM.1 hu).1;have hdN:=hg.dims.n;have hn32:n<4294967296:=by have:=hg.well.lt hu;omega
 have hkvl:=zeE c;have ht16:=hIs.tabs;have hs16:=hIs.snaps;have hkl:(qJ c).length=(kvC c).length:=by unfold qJ;rw[length_map]
 have hvl:(zU c).length=(kvC c).length:=by unfold zU;rw[length_map]
 have hlen:(0::qJ c).length=(bn::zU c).length:=hT.len;have hFlt:=h.lt
 -- what the tree's values are
 have hvu:∀ v∈bn::zU c,zG S.sup.pages S.now v=true:=by
  cases hT with
  |one hA=>exact fun v hv=>(hg.well.good n hu).2 v (by unfold yh;rw[hA.1];exact hv)
  |two m a c' h1 h2 h3 h4 h5 h6 h7 h8=>
   have hkid:yh S.page n=[a,c']:=by unfold yh;rw[h6]
   have hua:=((hg.well.good n hu).2 a (by rw[hkid];simp));have huc:=((hg.well.good n hu).2 c' (by rw[hkid];simp));intro v hv;rw[<- List.take_append_drop m (bn::zU c)]at hv;rcases mem_append.1 hv with e|e
   ·exact(hg.well.good a hua).2 v (by unfold yh;rw[h7.1];exact e)
   ·exact(hg.well.good c' huc).2 v (by unfold yh;rw[h8.1];exact e)
 have hv32:∀ v∈bn::zU c,v<4294967296:=fun v hv=>by have:=hg.well.lt (hvu v hv);omega
 apply zeV;unfold S43;refine zq fun r1 w1 hb1 he1 hr1 hz1=>?_;have hb1:Blk w1 r1 (zB (none,0,0) (none,0,0)) 30:=hb1;refine zd (beq_eq_false_iff_ne.2 (by omega)) ?_;refine zb (zg9 (h.ext he1) hg hT hu (by rw[length_cons];omega)) ?_;rintro _ w2 ⟨rfl,he2⟩;refine⟨_,rfl,zd (by rfl) ?_⟩;refine zq fun r5 w3 hb5 he3 hr5 hz3=>?_;refine zq fun r6 w4 hb6 he4 hr6 hz4=>?_;have he24:=he3.trans he4;have he04:=(he1.trans he2).trans he24;have hb14:=(hb1.ext he2).ext he24;have hb54:=hb5.ext he4;have hs2:=he2.size;refine zb (zjR (zjQ (b:=b) (db:=db) (F:=F) hg hT hu (by rw[length_cons];omega) hv32) (by omega)) ?_;rintro v w5 ⟨Q,R0,hit,hR0,hRx,hQl,hQ,he5⟩;refine⟨v,rfl,?_⟩;have hs5:=he5.size;have hL:(zbv (0::qJ c) (bn::zU c)).length=(0::qJ c).length:=zax hlen;generalize hKs:(0::qJ c)=KS at *;generalize hVs:(bn::zU c)=VS at *;refine zg2 (fun i=>((KS.getD i 0:Int),(VS.getD i 0:Int),())) ?_ (zqh w b db S F r1 r5 r6 w5.heap.size KS VS) (fun _ _ _=>False) hit hQl (fun w' w'' hs hS=>hS.same hs (fun hf=>by have:=hFlt _ hf;omega) (fun hf=>by have:=hFlt _ hf;omega)) (fun _ _ _ _=>trivial) (fun V i w' hI=>hI.1) ?_ (fun _ _ _ _ _ hf _ _=>hf.elim) ?_ (fun o=>hRx _ _ hR0 (((Ext.refl w5).alloc _).alloc _)) ?_ ?_ (fun _ _ _ hf _ _=>hf.elim)
 ·intro i hi;exact(List.getElem?_eq_some_iff.1 (zbw hlen (by rw[<- hL];exact hi))).2.symm
 ·rintro V V' i w' w'' ⟨g1,A1,A2,c1,c2,g2,g3,g4⟩ hO hV hR;have l6:=g2.b6.lt;refine⟨hR,A1,A2,c1,c2,g2.only hO (by omega) ⟨by omega,by omega⟩ g3,fun k hk=>?_,by have:=hO.2.2.2.1;omega⟩;rcases hk with hk|hk
  ·rcases hV k hk with e|e
   ·exact g3 k (.inl e)
   ·exact⟨by omega,fun e2=>by have:=g2.ks.yg _ e2;omega,fun e2=>by have:=g2.vs.yg _ e2;omega⟩
  ·exact g3 k (.inr hk)
 ·intro o;have hx:Ext w5 ((w5.alloc (.deferred (some []))).alloc o):=((Ext.refl w5).alloc _).alloc _;refine⟨(h.ext (he04.trans he5)).ext hx,none,none,0,0,⟨(he04.trans he5).trans hx,(hb14.ext he5).ext hx,(hb54.ext he5).ext hx,(hb6.ext he5).ext hx,Owni.nil _ _ _,Owni.nil _ _ _⟩,fun k hk=>⟨?_,by simp[orow,Value.ownBlock],by simp[orow,Value.ownBlock]⟩,hx.size⟩;rcases hk with hk|hk
  ·have:=hQ k hk;omega
  ·omega
 ·rintro V i hi w' G N jump hI hsz hV hVb hG;have hi':i<KS.length:=by rw[<- hL];exact hi
  refine hG _ w' hI (Nat.le_refl _) (fun _ _=>rfl) ?_;rintro w2' ⟨g1,A1,A2,c1,c2,g2,g3,g4⟩ hs2' hk2 hNC hN' hJ';dsimp only;have hKl:KS.length<=33:=by rw[<- hKs,length_cons];omega
  have hvi:VS.getD i 0<4294967296:=qZ hv32 (by omega) i;refine zj9 g2 ⟨by omega,by omega,by omega⟩ (by omega) hvi ?_;intro A1' A2' c1' c2' w3' g5 o5 n1 n2;have hnr:∀ k,V k\/k=w5.heap.size\/k=w5.heap.size+1->¬(k=r5\/k=r6\/orow A1=some k\/orow A2=some k)/\k<w2'.heap.size:=fun k hk=>by
   obtain⟨q1,q2,q3⟩:=g3 k hk;refine⟨fun e=>?_,?_⟩
   ·rcases e with e|e|e|e
    ·omega
    ·omega
    ·exact q2 e
    ·exact q3 e
   ·rcases hk with hk|hk
    ·have:=(hV k hk).1;omega
    ·omega
  have hsp':zV w3' b db S F:=g1.only o5 (fun j hj e=>by
   have:=hFlt j hj
   rcases e with e|e|e|e
   ·omega
   ·omega
   ·have:=g2.ks.row j e;omega
   ·have:=g2.vs.row j e;omega)
  refine hN' w3' hsp' ⟨hsp',A1',A2',c1',c2',by rw[zhE hi',zhE (by omega)];exact g5,fun k hk=>?_,by have:=o5.2.2.2.1;omega⟩ o5.2.2.2.1 (fun k hk=>?_)
  ·obtain⟨q1,q2,q3⟩:=g3 k hk;obtain⟨_,q4⟩:=hnr k hk;refine⟨q1,fun e=>?_,fun e=>?_⟩
   ·rcases n1 k e with e|e
    ·exact q2 e
    ·omega
   ·rcases n2 k e with e|e
    ·exact q3 e
    ·omega
  ·have hk:V k\/k=w5.heap.size\/k=w5.heap.size+1:=by
    rcases hk with e|e|e
    ·exact .inr (.inl e)
    ·exact .inr (.inr e)
    ·exact .inl e
   obtain⟨q1,q2⟩:=hnr k hk;exact o5.2.2.2.2 k q2 q1
 ·rintro V w' ⟨g1,A1,A2,c1,c2,g2,g3,g4⟩ _ hsz hdf;rw[jb];rw[hL]at g2;rw[take_of_length_le (Nat.le_refl _),take_of_length_le (by omega)]at g2;have htp:=zla hg hT hu;refine zb (zhn g1 hn32 htp.1 htp.2) ?_;rintro _ w6 ⟨rfl,he6⟩;refine⟨_,rfl,zd (by rfl) ?_⟩;have g6:=g2.ext' he6;have sp6:=g1.ext he6;have hdf6:=he6.heap hdf;have hs6:=he6.size;have hKl:1<=KS.length/\KS.length<=33:=by rw[<- hKs,length_cons];omega
  refine zO ((A1,KS.length,c1):SLC) g6.b5 (by rfl) (zd (beq_eq_false_iff_ne.2 (by dsimp only;omega)) ?_);refine zO ((A1,KS.length,c1):SLC) g6.b5 (by rfl) ?_;refine z7 g6.ks.sl (by omega) (by dsimp only;omega) ?_;have hK0:KS.getD (Int.toNat 0) 0=0:=by rw[<- hKs];rfl
  have hV0:VS.getD (Int.toNat 0) 0=bn:=by rw[<- hVs];rfl
  rw[hK0];refine zd (by rfl) ?_;refine zO ((A2,KS.length,c2):SLC) g6.b6 (by rfl) ?_;refine z7 g6.vs.sl (by omega) (by dsimp only;omega) ?_;rw[hV0];have hbnm:bn∈VS:=by rw[<- hVs];exact mem_cons_self
  refine zb (zpl sp6 (hv32 bn hbnm) hg.dims (hBl.blob hg (hvu bn hbnm))) ?_;rintro _ w7 ⟨rfl,he7⟩;refine⟨(mkB (xI c),0,()),rfl,zd (by rfl) ?_⟩;have hcl:=hIs.len;refine zb (zf3 (s:=mkB (xI c)) (by rw[xv];omega)) ?_;rintro _ w8 ⟨⟨x,y,rfl,hown⟩,he8⟩;rw[xt,zj0 hIs]at hown ⊢;refine⟨(yl x y,0,()),rfl,?_⟩;refine yd (vs:=zB x y) (by rfl) (ye _ _) (fun r41 w9 hb41 he9 hr41=>?_) (by rfl);refine zd (by rfl) ?_;have hown9:=hown.ext he9;have hcat:=hown9.cat;have he68:=he7.trans he8;have he69:=he68.trans he9;have hs7:=he7.size;have hs8:=he8.size;have hs9:=he9.size;have g9:=g6.ext' he69;have hdf9:=he69.heap hdf6;refine zb (zaG hb41 hcat (by show(ones c).1.length<=_;unfold ones;rw[length_map];omega) (by show(ones c).2.length<=_;unfold ones;rw[length_map];omega)) ?_;rintro _ w10 ⟨Asp,ksp,rfl,hsp,he10⟩;refine⟨(Asp,(zW x y (ones c)).length,ksp),rfl,?_⟩;have hso:=zka x y c;have hsl:(zW x y (ones c)).length=(zW x y c).length:=by have:=congrArg List.length hso;rwa [length_map,length_map]at this
  rw[hso,hsl]at hsp;rw[hsl];have g10:=g9.ext' he10;have hdf10:=he10.heap hdf9;have hs10:=he10.size;have hspl:=zai x y c;have hkv:=zbE x y c;have hlx:=hb41.lt
  -- rows
  have rx:(∀ j,orow x.1=some j->w7.heap.size<=j/\j<w8.heap.size)/\(∀ j,orow y.1=some j->w7.heap.size<=j/\j<w8.heap.size):=by
   obtain⟨⟨raws,q1⟩,q2⟩:=hown;exact⟨fun j hj=>⟨q1.row.row j hj,q1.row.yg j hj⟩,fun j hj=>⟨q2.row j hj,q2.yg j hj⟩⟩
  have rA1:=g6.ks.yg;have rA2:=g6.vs.yg;have l6:=g6.b6.lt;refine zO ((A1,KS.length,c1):SLC) g10.b5 (by rfl) ?_;have hKl2:KS.length=(zW x y c).length+1:=by rw[<- hKs,length_cons,hkl,hspl]
  refine zd (bne_eq_false_iff_eq.2 (by dsimp only;rw[wrap_i64 (by omega) (by omega)];omega)) ?_;generalize hspd:zW x y c=sp at *;refine zE (fun t w'=>∃ i:Nat,i<=sp.length/\t=((i:Int),())/\zaj w' w7.heap.size x y c i/\Gath w w' r1 r5 r6 KS.length KS VS A1 A2 c1 c2/\Blk w' r41 (zB x y) 30/\Owni spE 135 w' w9.heap.size Asp sp.length ksp (sp.map spP)/\w'.heap[w5.heap.size]?=some (.deferred (some []))) (fun t=>(sp.length-t.1).toNat)
   ⟨0,by omega,rfl,(zpk hown9).ext he10,g10,hb41.ext he10,hsp,hdf10⟩ ?_
  rintro _ w11 ⟨i,hi,rfl,hmx,g11,hb11,hsp11,hdf11⟩;dsimp only
  by_cases hlt:i<sp.length
  ·refine zf (decide_eq_true (by omega)) ?_;have eg:(sp.map spP)[i]?=some (spP (sp[i]'hlt)):=by rw[List.getElem?_map,List.getElem?_eq_getElem hlt];rfl
   have egs:(zW x y c)[i]?=some (sp[i]'hlt):=by rw[hspd,List.getElem?_eq_getElem hlt]
   have ekey:KS.getD (i+1) 0=(sp[i]'hlt).1:=by
    rw[<- hKs];show(qJ c).getD i 0=_;unfold qJ;rw[<- hkv,map_map,getD_eq_getElem?_getD,List.getElem?_map,List.getElem?_eq_getElem hlt];rfl
   have eval:VS.getD (i+1) 0=(sp[i]'hlt).2.2:=by
    rw[<- hVs];show(zU c).getD i 0=_;unfold zU;rw[<- hkv,map_map,getD_eq_getElem?_getD,List.getElem?_map,List.getElem?_eq_getElem hlt];rfl
   generalize sp[i]'hlt=p at *;refine jz hsp11.sl (by omega) (x:=spP p) (by rw[Int.toNat_natCast];exact eg) rfl ?_;intro pa hpa hca;refine kj (ls:=[.int .u64,.ptr]) (x:=((p.1:Int),some p.2.1,())) hca ?_;refine yd (vs:=[.int .u64 (p.1:Int),.pointer (some p.2.1)]) (by rfl) (by
    intro v hv
    simp only [mem_cons,not_mem_nil,or_false]at hv
    rcases hv with rfl|rfl<;>rfl) (fun r50 w12 hb50 he12 hr50=>?_) (by rfl)
   refine zS fun w13 he13 hz13 hh13=>?_;have he113:=he12.trans he13;have g13:=g11.ext' he113;have hb50:=hb50.ext he13;have hw:wrap .i64 ((i:Int)+1)=((i+1:Nat):Int):=by rw[wrap_i64 (by omega) (by omega)];rfl
   rw[hw];refine zO ((A1,KS.length,c1):SLC) g13.b5 (by rfl) ?_;refine z7 g13.ks.sl (by omega) (by dsimp only;omega) ?_;rw[Int.toNat_natCast,ekey];refine zO ((p.1:Nat):Int) hb50 (by rfl) (zd (by simp) ?_);refine zS fun w14 he14 hz14 hh14=>?_;have he114:=he113.trans he14;have g14:=g11.ext' he114;refine zn 1 (some p.2.1) (hb50.ext he14) (by rfl) ?_;refine zO ((A2,KS.length,c2):SLC) g14.b6 (by rfl) ?_;refine z7 g14.vs.sl (by omega) (by dsimp only;omega) ?_;rw[Int.toNat_natCast,eval];refine zt ?_;refine zpT (hmx.ext he114) egs ?_;intro w15 hmx15 o15;have hG:∀ k,(orow x.1=some k\/orow y.1=some k)->w7.heap.size<=k/\k<w8.heap.size:=fun k hk=>by
    rcases hk with e|e
    ·exact rx.1 k e
    ·exact rx.2 k e
   refine⟨⟨i+1,by omega,rfl,hmx15,g14.only o15 (by omega) ⟨by omega,by omega⟩ (fun k hk=>?_),(hb11.ext he114).only o15 (fun e=>by have:=hG _ e;omega),(hsp11.ext he114).only o15 (fun j hj e=>by have:=hG _ e;have:=hsp11.row j hj;omega),?_⟩,by omega⟩
   ·have:=hG k hk;exact⟨by omega,fun e=>by have:=rA1 _ e;omega,fun e=>by have:=rA2 _ e;omega⟩
   ·have hz:w5.heap.size<w14.heap.size:=by have:=(Array.getElem?_eq_some_iff.1 (he114.heap hdf11)).1;omega
    rw[o15.2.2.2.2 _ hz (fun e=>by have:=hG _ e;omega)];exact he114.heap hdf11
  ·obtain rfl:i=sp.length:=by omega
   refine zd (decide_eq_false (by omega)) ?_;have hc:=zld hmx (by rw[hspd];exact Nat.le_refl _);refine zK (ls:=yy) (yl x y) hb11 (by rfl) ?_;refine refill (vs:=zB x y) g11.b1 (by rfl) (ye _ _) (by rfl) ?_;intro w12 hb12 hx12 hk12 hz12;have he12:=hx12 w g11.ext (by omega);have heo:=g11.ext;refine jn (by rw[hk12 _ (by omega)];exact hdf11) ?_;have hsb:=yc (a:=w5.heap.size) (b:=w5.heap.size+1) (w:=w12) (o:=.deferred none) (.inl rfl);refine zK (ls:=yy) (yl x y) (hsb.blk hb12 (by omega)) (by rfl) ?_;have o1:Only (fun k=>k=r1) w11 w12:=⟨he12.os.trans heo.os.symm,he12.tape.trans heo.tape.symm,he12.output.trans heo.output.symm,Nat.le_of_eq hz12.symm,fun k _ hk=>hk12 k hk⟩;have o2:Only (fun k=>k=w5.heap.size) w12 (yC w12 w5.heap.size (.deferred none)):=Only.yC rfl;refine⟨⟨x,y,rfl,((hc.only o1 (fun k hk=>by omega)).only o2 (fun k hk=>by omega)).lower (by have:=he04.size;omega)⟩,hsb.ext he12 (by omega)⟩
end V
/- Contracts of the package catalog:Find,Copy. -/
namespace V
open Go Go.Proofs Go.RowKit Crc
variable {w w':World}
theorem Owni.neB {α:Type} {E:Enc α} {w:World} {e t:TypeId} {B n c r:Nat} {A:Option Addr} {xs:List α} {cs:List Value} (h:Owni E e w B A n c xs) (hb:Blk w r cs t) (he:e≠t):∀ j,orow A=some j->j≠r:=by
 intro j hj hr;subst hr;rcases h.2 with ⟨hv,_⟩|⟨g,cap,cur,hv,_,hg,_⟩
 ·injection hv with hv;subst hv;cases hj
 ·injection hv with hv
  subst hv;have e1:g=j:=Option.some.inj hj;subst e1;have hb':w.heap[g]?=some _:=hb;rw[hg]at hb';injection hb' with hb'
  injection hb' with _ e2 _
  exact he e2
theorem zle:qq prog 38 95 (.agg #[.string ByteArray.empty,.int .i64 0,.bool false]) qw.k 32:=⟨by kernel_rfl,by kernel_rfl,by kernel_rfl⟩
theorem zcL {x:SLC} {xs:List Raw} (h:Sli xg w x.1 x.2.1 xs) (hn:x.2.1<=1000000):
  Calls prog 78 #[.slice x.1 x.2.1 x.2.2] w (Ret fun v w'=>∃ A c,v=.slice A x.2.1 c/\Owni xg 42 w' w.heap.size A x.2.1 c xs/\Ext w w'):=by
 apply zoE;unfold S78;exact zeW (K:=fun v w'=>∃ A c,v=.slice A x.2.1 c/\Owni xg 42 w' w.heap.size A x.2.1 c xs/\Ext w w') zhk h (by omega) (by omega) fun A' c' w' ho he=>⟨A',c',rfl,ho,he⟩
theorem uR {x:SLC} {xs:List Snp} (h:Sli zA w x.1 x.2.1 xs) (hn:x.2.1<=1000000):
  Calls prog 79 #[.slice x.1 x.2.1 x.2.2] w (Ret fun v w'=>∃ A c,v=.slice A x.2.1 c/\Owni zA 64 w' w.heap.size A x.2.1 c xs/\Ext w w'):=by
 apply zoF;unfold S79;exact zeW (K:=fun v w'=>∃ A c,v=.slice A x.2.1 c/\Owni zA 64 w' w.heap.size A x.2.1 c xs/\Ext w w') qS h (by omega) (by omega) fun A' c' w' ho he=>⟨A',c',rfl,ho,he⟩
theorem zhG {x:SLC} {xs:List Col} (h:Sli qw w x.1 x.2.1 xs) (hn:x.2.1<=1000000):
  Calls prog 80 #[.slice x.1 x.2.1 x.2.2] w (Ret fun v w'=>∃ A c,v=.slice A x.2.1 c/\Owni qw 95 w' w.heap.size A x.2.1 c xs/\Ext w w'):=by
 apply zoG;unfold S80;exact zeW (K:=fun v w'=>∃ A c,v=.slice A x.2.1 c/\Owni qw 95 w' w.heap.size A x.2.1 c xs/\Ext w w') zle h (by omega) (by omega) fun A' c' w' ho he=>⟨A',c',rfl,ho,he⟩
def zak (c:Cat):Prop:=c.1.length<=1000/\c.2.length<=1000/\∀ e∈c.1,e.2.1.length<=1000
structure zfg (w0 w:World) (r2 r7:Nat) (X Y:SLC) (raws:List Raw) (c:Cat) (i:Nat) (raws':List Raw):Prop where
 ext:Ext w0 w
 b2:Blk w r2 (zB (none,0,0) (none,0,0)) 30
 b7:Blk w r7 (zB X Y) 30
 row:Owni xg 42 w w0.heap.size X.1 X.2.1 X.2.2 raws'
 len:raws'.length=raws.length
 done:∀ j,j<i->xU w w0.heap.size (raws'.getD j xf) (c.1.getD j yu)
 left:∀ j,i<=j->raws'.getD j xf=raws.getD j xf
 snps:Owni zA 64 w w0.heap.size Y.1 Y.2.1 Y.2.2 c.2
theorem zfg.ext' {w0:World} {r2 r7 i:Nat} {X Y:SLC} {raws raws':List Raw} {c:Cat} (h:zfg w0 w r2 r7 X Y raws c i raws') (he:Ext w w'):zfg w0 w' r2 r7 X Y raws c i raws':=
 ⟨h.ext.trans he,h.b2.ext he,h.b7.ext he,h.row.ext he,h.len,fun j hj=>(h.done j hj).ext he,h.left,h.snps.ext he⟩
theorem zcM {w0:World} {r2 r7:Nat} {x X Y:SLC} {raws:List Raw} {c:Cat} {K:Value->WP} (hT:za0 w0 x raws c.1) (hX:X.2.1=raws.length) (hlt:zak c) (h2:w0.heap.size<=r2) (h7:w0.heap.size<=r7) (h27:r2≠r7) (h:zfg w0 w r2 r7 X Y raws c 0 raws)
  (hK:∀ w',z8 w' w0.heap.size X Y c->Ext w0 w'->K (.agg (zB X Y).toArray) w'):
  (ldW .slc (aD r7) fun(u8:SLC)=>
   zL (Int×Unit) ((0:Int),()) fun(y10:Int×Unit) (I9:(Int×Unit)->WP)=>
   za (decide (y10.1<((u8.2.1:Nat):Int))) (zc (0<=y10.1/\y10.1<((u8.2.1:Nat):Int))<|
   zk u8.1 fun(p11:Addr)=>
   zl [.str,.slc,(.int .u32),(.int .u64),(.int .i64)] (p11.add (Int.toNat y10.1*5)) fun(u12:(ByteArray×SLC×Int×Int×Int×Unit))=>
   zi (.cells #[(.string ByteArray.empty),(.slice none 0 0),(.int .u32 (0:Int)),(.int .u64 (0:Int)),(.int .i64 (0:Int))] 42) fun(r13:Nat)=>
   zc ((#[(.string u12.1),(.slice u12.2.1.1 u12.2.1.2.1 u12.2.1.2.2),(.int .u32 u12.2.2.1),(.int .u64 u12.2.2.2.1),(.int .i64 u12.2.2.2.2.1)]:Array Value).size=5)<|
   zr (aD r13) [(.string u12.1),(.slice u12.2.1.1 u12.2.1.2.1 u12.2.1.2.2),(.int .u32 u12.2.2.1),(.int .u64 u12.2.2.2.1),(.int .i64 u12.2.2.2.2.1)]<|
   zF<|
   ldW .slc (aD r7) fun(u14:SLC)=>
   ldW .slc ((aD r13).add 1) fun(u15:SLC)=>
   ze prog 80 [(.slice u15.1 u15.2.1 u15.2.2)] (.one (.one .slc)) fun(u16:SLC)=>
   zu [[((aD r7),(.slice u14.1 u14.2.1 u14.2.2))]]<|
   zc (0<=y10.1/\y10.1<((u14.2.1:Nat):Int))<|
   zk u14.1 fun(p17:Addr)=>
   stW ((p17.add (Int.toNat y10.1*5)).add 1) (.slice u16.1 u16.2.1 u16.2.2)<|I9 ((wrap .i64 (y10.1+(1:Int))),()))<|
   zl [.slc,.slc] (aD r7) fun(u18:(SLC×SLC×Unit))=>
   zc ((#[(.slice u18.1.1 u18.1.2.1 u18.1.2.2),(.slice u18.2.1.1 u18.2.1.2.1 u18.2.1.2.2)]:Array Value).size=2)<|
   zr (aD r2) [(.slice u18.1.1 u18.1.2.1 u18.1.2.2),(.slice u18.2.1.1 u18.2.1.2.1 u18.2.1.2.2)]<|
   zl [.slc,.slc] (aD r2) fun(u19:(SLC×SLC×Unit))=>K (.agg #[(.slice u19.1.1 u19.1.2.1 u19.1.2.2),(.slice u19.2.1.1 u19.2.1.2.1 u19.2.1.2.2)])) w:=by
 have hl:=hT.len;obtain⟨hl1,hl2,hl3⟩:=hlt;refine zO X h.b7 (by rfl) ?_;refine zE (fun q w'=>∃ (i:Nat) (raws':List Raw),i<=raws.length/\q=((i:Int),())/\zfg w0 w' r2 r7 X Y raws c i raws') (fun q=>(raws.length-q.1).toNat) ⟨0,raws,by omega,rfl,h⟩ ?_;rintro _ w1 ⟨i,raws',hi,rfl,g⟩;dsimp only;have hl':=g.len
 by_cases hlt:i<raws.length
 ·refine zf (decide_eq_true (by omega)) ?_;have eg:raws'[i]?=some (raws'.getD i xf):=by rw[getD_eq_getElem?_getD,List.getElem?_eq_getElem (by omega)];rfl
  have eL:=g.left i (Nat.le_refl _);have hE:=(hT.at_ i (by omega)).ext g.ext;rw[<- eL]at hE;have hmem:c.1.getD i yu∈c.1:=by rw[getD_eq_getElem?_getD,List.getElem?_eq_getElem (by omega)];exact getElem_mem _
  have hcl:=hl3 _ hmem;generalize hp:raws'.getD i xf=p at *;refine jz g.row.sl (by omega) (x:=p) (by rw[Int.toNat_natCast];exact eg) rfl ?_;intro pa hpa hca;refine kj (ls:=zj1) (x:=zdT p) hca ?_;refine yd (vs:=xg.f p) (by rfl) (xg.one _) (fun r13 w2 hb2 he2 hr2=>?_) (by rfl);refine zS fun w3 he3 hz3 hh3=>?_;have he13:=he2.trans he3;have g3:=g.ext' he13;have hb3:=hb2.ext he3;refine zO X g3.b7 (by rfl) (zn 1 p.2.1 hb3 (by rfl) ?_);have hcs:=hE.cols.ext he13;have hcsl:=hcs.len;refine zb (zhG (x:=p.2.1) hcs (by omega)) ?_;rintro _ w4 ⟨A4,k4,rfl,ho4,he4⟩;refine⟨(A4,p.2.1.2.1,k4),rfl,?_⟩;have g4:=g3.ext' he4;refine xQ (yL g4.b7 rfl) ?_;refine zC ⟨by omega,by omega⟩ ?_;obtain⟨a,hA⟩:∃ a,X.1=some a:=by
   obtain⟨a,ha,_⟩:=g4.row.sl.2.2 (by omega);exact⟨a,ha⟩
  refine⟨a,hA,?_⟩;have hadr:(a.add (Int.toNat (i:Int)*5)).add 1=((adr X.1).add (i*5)).add 1:=by rw[hA,Int.toNat_natCast];rfl
  have hw:wrap .i64 ((i:Int)+1)=((i+1:Nat):Int):=by rw[wrap_i64 (by omega) (by omega)];rfl
  show stW ((a.add (Int.toNat (i:Int)*5)).add 1) (.slice A4 p.2.1.2.1 k4) _ w4;rw[hadr,hw];refine Owni.stF (x':=(p.1,(A4,p.2.1.2.1,k4),p.2.2)) g4.row (k:=5) rfl eg (by omega) (by rfl) ?_;intro w5 ho5 o5;have hrow:=g4.row.row;have hsz:=g.ext.size;have hsz3:=he13.size;refine⟨⟨i+1,_,by omega,rfl,Only.ext g4.ext o5 (fun j hj=>hrow j hj),g4.b2.only o5 (fun e=>?_),g4.b7.only o5 (fun e=>?_),ho5,by rw[length_set];exact hl',fun j hj=>?_,fun j hj=>?_,g4.snps.only o5 (fun q hq e=>g4.snps.ne g4.row (by decide) q hq e)⟩,by omega⟩
  ·exact Owni.neB g4.row g4.b2 (by decide) _ e rfl
  ·exact Owni.neB g4.row g4.b7 (by decide) _ e rfl
  ·rw[kK (by omega)]
   by_cases e:i=j
   ·subst e;rw[if_pos rfl];exact⟨hE.name,hE.rest,(ho4.lower (by omega)).only o5 (fun q hq e=>ho4.ne g4.row (by decide) q hq e)⟩
   ·rw[if_neg e];have hd:=g4.done j (by omega);exact⟨hd.name,hd.rest,hd.cols.only o5 (fun q hq e=>hd.cols.ne g4.row (by decide) q hq e)⟩
  ·rw[kK (by omega),if_neg (by omega)];exact g4.left j (by omega)
 ·obtain rfl:i=raws.length:=by omega
  refine zd (decide_eq_false (by omega)) ?_;refine zK (ls:=yy) (yl X Y) g.b7 (by rfl) ?_;refine refill (vs:=zB X Y) g.b2 (by rfl) (ye _ _) (by rfl) ?_;intro w2 hb2 hx2 hk2 hz2;have he2:=hx2 w0 g.ext h2;refine zK (ls:=yy) (yl X Y) hb2 (by rfl) ?_;have o:Only (fun k=>k=r2) w1 w2:=⟨he2.os.trans g.ext.os.symm,he2.tape.trans g.ext.tape.symm,he2.output.trans g.ext.output.symm,Nat.le_of_eq hz2.symm,fun k _ hk=>hk2 k hk⟩;have nB:∀ {α:Type} {E:Enc α} {e:TypeId} {A:Option Addr} {n k:Nat} {xs:List α},e≠30->Owni E e w1 w0.heap.size A n k xs->Owni E e w2 w0.heap.size A n k xs:=fun hne ho=>ho.only o (fun j hj e=>Owni.neB ho g.b2 hne j hj e);refine hK w2 ⟨⟨raws',nB (by decide) g.row,by omega,fun j hj=>?_⟩,nB (by decide) g.snps⟩ he2;have hd:=g.done j (by omega);exact⟨hd.name,hd.rest,nB (by decide) hd.cols⟩
theorem vX {x y:SLC} {c:Cat} (h:yH w x y c) (hlt:zak c):
  Calls prog 37 #[.agg (zB x y).toArray] w (Ret fun v w'=>(∃ X Y,v=.agg (zB X Y).toArray/\z8 w' w.heap.size X Y c)/\Ext w w'):=by
 obtain⟨⟨raws,hT⟩,hs,hcx,hcy⟩:=h;have hl:=hT.len;have hxl:=hT.sl.len;have hyl:=hs.len;obtain⟨hl1,hl2,hl3⟩:=id hlt;apply zn8;unfold S37;refine zq fun r1 w1 hb1 he1 hr1 hz1=>?_;have hb1:Blk w1 r1 (zB x y) 30:=hb1;refine zq fun r2 w2 hb2 he2 hr2 hz2=>?_;have hb2:Blk w2 r2 (zB (none,0,0) (none,0,0)) 30:=hb2;refine zS fun w3 he3 hz3 hh3=>?_;have hb13:=(hb1.ext he2).ext he3;have hb23:=hb2.ext he3;have he03:=(he1.trans he2).trans he3;have hs03:=he03.size;refine zO x hb13 (by rfl) (zn 1 y hb13 (by rfl) ?_);have fin:∀ {w6:World} {r7:Nat} {A1 A2:Option Addr} {k1 k2:Nat} {B1 B2:Nat},Ext w3 w6->Owni xg 42 w6 B1 A1 x.2.1 k1 raws->Owni zA 64 w6 B2 A2 y.2.1 k2 c.2->w.heap.size<=B1->w.heap.size<=B2->Blk w6 r7 (zB (A1,x.2.1,k1) (A2,y.2.1,k2)) 30->zfg w w6 r2 r7 (A1,x.2.1,k1) (A2,y.2.1,k2) raws c 0 raws:=fun he ho1 ho2 hB1 hB2 hb=>
  ⟨he03.trans he,hb23.ext he,hb,ho1.lower hB1,rfl,fun j hj=>absurd hj (by omega),fun j _=>rfl,ho2.lower hB2⟩
 refine⟨?_,?_⟩
 ·refine zb (zcL (hT.sl.ext he03) (by omega)) ?_;rintro _ w4 ⟨A1,k1,rfl,ho1,he4⟩;refine⟨(A1,x.2.1,k1),rfl,?_⟩;refine xQ (yY (hb13.ext he4) rfl) ?_;refine⟨?_,?_⟩
  ·refine zb (uR (hs.ext (he03.trans he4)) (by omega)) ?_;rintro _ w5 ⟨A2,k2,rfl,ho2,he5⟩;refine⟨(A2,y.2.1,k2),rfl,?_⟩;refine zq fun r7 w6 hb7 he6 hr7 hz7=>?_;have he36:=(he4.trans he5).trans he6;have hz36:=he36.size;have:=he4.size;have:=he5.size;refine jC (yY (hb13.ext he36) rfl) (yL (hb13.ext he36) rfl) ?_;refine refill (vs:=zB (A1,x.2.1,k1) (A2,y.2.1,k2)) hb7 (by rfl) (ye _ _) (by rfl) ?_;intro w7 hb77 hx7 hk7 hz77;have he7:=hx7 w3 he36 (by omega);have e7:=hx7 w5 he6 (by omega);exact zcM (K:=fun v w'=>(∃ X Y,v=.agg (zB X Y).toArray/\z8 w' w.heap.size X Y c)/\Ext w w') (X:=(A1,x.2.1,k1)) (Y:=(A2,y.2.1,k2)) hT hxl.symm hlt (by omega) (by omega) (by omega) (fin he7 ((ho1.ext he5).ext e7) (ho2.ext e7) (by omega) (by omega) hb77) (fun w' hc he=>⟨⟨_,_,rfl,hc⟩,he⟩)
  ·refine zq fun r7 w6 hb7 he6 hr7 hz7=>?_;have he36:=he4.trans he6;have:=he4.size;refine jC (yY (hb13.ext he36) rfl) (yL (hb13.ext he36) rfl) ?_;refine zb (uR (hs.ext (he03.trans he36)) (by omega)) ?_;rintro _ w5 ⟨A2,k2,rfl,ho2,he5⟩;refine⟨(A2,y.2.1,k2),rfl,?_⟩;have he35:=he36.trans he5;have:=he6.size;refine refill (vs:=zB (A1,x.2.1,k1) (A2,y.2.1,k2)) (hb7.ext he5) (by rfl) (ye _ _) (by rfl) ?_;intro w7 hb77 hx7 hk7 hz77;have he7:=hx7 w3 he35 (by omega);have e47:=hx7 w4 (he6.trans he5) (by omega);have o7:Only (fun k=>k=r7) w5 w7:=⟨he7.os.trans he35.os.symm,he7.tape.trans he35.tape.symm,he7.output.trans he35.output.symm,Nat.le_of_eq hz77.symm,fun k _ hk=>hk7 k hk⟩;exact zcM (K:=fun v w'=>(∃ X Y,v=.agg (zB X Y).toArray/\z8 w' w.heap.size X Y c)/\Ext w w') (X:=(A1,x.2.1,k1)) (Y:=(A2,y.2.1,k2)) hT hxl.symm hlt (by omega) (by omega) (by omega) (fin he7 (ho1.ext e47) (ho2.only o7 (fun j hj e=>by have:=ho2.row j hj;have:j=r7:=e;omega)) (by omega) (by omega) hb77) (fun w' hc he=>⟨⟨_,_,rfl,hc⟩,he⟩)
 ·refine zq fun r7 w6 hb7 he6 hr7 hz7=>?_;refine jC (yY (hb13.ext he6) rfl) (yL (hb13.ext he6) rfl) ?_;refine zb (zcL (hT.sl.ext (he03.trans he6)) (by omega)) ?_;rintro _ w4 ⟨A1,k1,rfl,ho1,he4⟩;refine⟨(A1,x.2.1,k1),rfl,?_⟩;refine xQ (yY ((hb13.ext he6).ext he4) rfl) ?_;have:=he6.size;have:=he4.size;refine zb (uR (hs.ext ((he03.trans he6).trans he4)) (by omega)) ?_;rintro _ w5 ⟨A2,k2,rfl,ho2,he5⟩;refine⟨(A2,y.2.1,k2),rfl,?_⟩;have he65:=he4.trans he5;have he35:=he6.trans he65;refine refill (vs:=zB (A1,x.2.1,k1) (A2,y.2.1,k2)) (hb7.ext he65) (by rfl) (ye _ _) (by rfl) ?_;intro w7 hb77 hx7 hk7 hz77;have he7:=hx7 w3 he35 (by omega);have o7:Only (fun k=>k=r7) w5 w7:=⟨he7.os.trans he35.os.symm,he7.tape.trans he35.tape.symm,he7.output.trans he35.output.symm,Nat.le_of_eq hz77.symm,fun k _ hk=>hk7 k hk⟩;have hlt7:=hb7.lt;exact zcM (K:=fun v w'=>(∃ X Y,v=.agg (zB X Y).toArray/\z8 w' w.heap.size X Y c)/\Ext w w') (X:=(A1,x.2.1,k1)) (Y:=(A2,y.2.1,k2)) hT hxl.symm hlt (by omega) (by omega) (by omega) (fin he7 ((ho1.ext he5).only o7 (fun j hj e=>by have:=ho1.row j hj;have:j=r7:=e;omega)) (ho2.only o7 (fun j hj e=>by have:=ho2.row j hj;have:j=r7:=e;omega)) (by omega) (by omega) hb77) (fun w' hc he=>⟨⟨_,_,rfl,hc⟩,he⟩)
end V
/- slices.Insert,slices.Delete:rows of elements of several cells. -/
namespace V
open Go Go.Proofs Go.RowKit Crc
section
variable {P:Program} {t e:TypeId} {z:Value} {k bytes:Nat}
theorem ziu {w:World} {b o n c m d:Nat} {ty t2:TypeId} {a:Addr} {cs ys:List Value} {K:SLC->WP} (hE:qq P t e z k bytes) (hb:Blk w b cs t2) (ho:o+c*k<=cs.length) (hn:n+m<=c)
  (hyl:ys.length=m*k) (hx:∀ j u,ys[j]?=some u->w.cell? (a.add j)=some u) (hys:∀ y∈ys,y.oneCell'=true)
  (hK:∀ w',Blk w' b (cs.take (o+n*k)++ys++cs.drop (o+n*k+m*k)) t2->w.grownBy w' (some b)->K (some ⟨b,o,none⟩,n+m,c) w'):
  zv P (Builtin.append_ #[t,t] ty #[.slice (some ⟨b,o,none⟩) n c,.slice (some a) m d]) .slc K w:=by
 obtain⟨ht,hi,hz⟩:=hE;obtain⟨i,hi,hii⟩:=Option.map_eq_some_iff.1 hi;simp only [Prod.mk.injEq]at hii;obtain⟨hz0,hz1,hz2⟩:=hii;have hmul:=Nat.mul_le_mul_right k hn;rw[Nat.add_mul]at hmul;obtain⟨hst,hbl,hg⟩:=uo hb (o:=o+n*k) (vs:=ys) (by omega) hys;rw[hyl]at hbl;have hload:=run_loadCells_list (P:=P) w a ys hx;have hstore:=qj (P:=P) hst;refine⟨(some ⟨b,o,none⟩,n+m,c),_,?_,hK _ hbl hg⟩;rw[hyl]at hload;simp[Builtin.append_,run_underlying ht,sizeOf,typeInfo,hi,hz1,Builtin.lenOf,Builtin.firstCells,hn,hload,zw,hstore];rfl
theorem zgd {w:World} {b o n c m d:Nat} {ty u t2:TypeId} {a:Addr} {cs ys:List Value} {K:Int->WP} (hE:qq P t e z k bytes) (hb:Blk w b cs t2) (ho:o+min m n*k<=cs.length)
  (hyl:ys.length=min m n*k) (hx:∀ j u,ys[j]?=some u->w.cell? (a.add j)=some u) (hys:∀ y∈ys,y.oneCell'=true)
  (hK:∀ x w',Blk w' b (cs.take o++ys++cs.drop (o+min m n*k)) t2->w.grownBy w' (some b)->K x w'):
  zv P (Builtin.copy_ #[t,u] ty #[.slice (some ⟨b,o,none⟩) n c,.slice (some a) m d]) (.int .i64) K w:=by
 obtain⟨ht,hi,hz⟩:=hE;obtain⟨i,hi,hii⟩:=Option.map_eq_some_iff.1 hi;simp only [Prod.mk.injEq]at hii;obtain⟨hz0,hz1,hz2⟩:=hii;obtain⟨hst,hbl,hg⟩:=uo hb (o:=o) (vs:=ys) (by omega) hys;rw[hyl]at hbl;have hload:=run_loadCells_list (P:=P) w a ys hx;have hstore:=qj (P:=P) hst;refine⟨((min m n:Nat):Int),_,?_,hK _ _ hbl hg⟩;rw[hyl]at hload;simp only [Nat.min_def]at hload;simp[Builtin.copy_,run_underlying ht,sizeOf,typeInfo,hi,hz1,Builtin.lenOf,Builtin.firstCells,hload,hstore,goInt,Nat.min_def,Lf.val]
theorem zpU {w:World} {b o n c:Nat} {ty t2:TypeId} {cs:List Value} {K:Value->WP} (hE:qq P t e z k bytes) (hb:Blk w b cs t2) (ho:o+n*k<=cs.length) (hys:∀ y∈(Builtin.zeroCells z.cells n).toList,y.oneCell'=true)
  (hK:∀ v w' zs,zs.length=n*k->Blk w' b (cs.take o++zs++cs.drop (o+n*k)) t2->w.grownBy w' (some b)->K v w'):
  zv P (Builtin.clear_ #[t] ty #[.slice (some ⟨b,o,none⟩) n c]) .any K w:=by
 obtain⟨ht,hi,hz⟩:=hE;obtain⟨i,hi,hii⟩:=Option.map_eq_some_iff.1 hi;simp only [Prod.mk.injEq]at hii;obtain⟨hz0,hz1,hz2⟩:=hii;cases n with
 |zero=>
  refine⟨.tuple #[],w,?_,hK _ w [] (by simp) (by simpa using hb) (xo _ _)⟩;simp[Builtin.clear_,run_underlying ht,Lf.val]
 |succ n=>
  have hl:((Builtin.zeroCells z.cells (n+1)).toList).length=(n+1)*k:=by simp[Builtin.zeroCells,hz]
  obtain⟨hst,hbl,hg⟩:=uo hb (o:=o) (vs:=(Builtin.zeroCells z.cells (n+1)).toList) (by omega) hys;have hstore:=qj (P:=P) hst;rw[hl]at hbl;refine⟨.tuple #[],_,?_,hK _ _ _ hl hbl hg⟩;simp[Builtin.clear_,run_underlying ht,zeroValue,typeInfo,hi,hz0,hstore,Lf.val]
end
section
variable {α:Type} {E:Enc α} {e:TypeId} {w w':World} {B g n c:Nat} {xs:List α}
theorem zhH (h:Owni E e w B (some ⟨g,0,none⟩) n c xs):∃ cs,Blk w g cs e/\cs.length=c*E.k/\cs.take (n*E.k)=E.flat xs/\B<=g:=by
 rcases h.2 with ⟨hv,_⟩|⟨g',cap,cur,hv,hb,hh,h1,h2,h3,h4⟩
 ·cases hv
 ·injection hv with hv1 hv2 hv3
  injection hv1 with hv1
  injection hv1 with hv1
  subst hv1 hv3;exact⟨cur.toList,by show w.heap[g]?=_;rw[hh],by rw[Array.length_toList];exact h3,h4,hb⟩
theorem zfh {cs:List Value} (h:Blk w g cs e) (hl:cs.length=c*E.k) (hx:cs.take (n*E.k)=E.flat xs) (hn:xs.length=n) (hnc:n<=c) (hc:c<=9223372036854775807) (hB:B<=g):Owni E e w B (some ⟨g,0,none⟩) n c xs:=by
 refine⟨by rw[E.yz,hn],.inr ⟨g,c,cs.toArray,rfl,hB,h,hnc,by simpa [maxLen] using hc,by simpa using hl,by simpa using hx⟩⟩
theorem Owni.addr {A:Option Addr} (h:Owni E e w B A n c xs) (hn:0<n):∃ g,A=some ⟨g,0,none⟩:=by
 rcases h.2 with ⟨hv,h2⟩|⟨g,cap,cur,hv,_⟩
 ·omega
 ·injection hv with hv
  exact⟨g,hv⟩
end
variable {w w':World}
theorem zne (n:Nat):∀ y∈(Builtin.zeroCells (Value.agg #[.string ByteArray.empty,.int .u32 0]).cells n).toList,y.oneCell'=true:=by
 intro y hy;simp only [Builtin.zeroCells,Array.toList_map,mem_map]at hy;obtain⟨i,_,rfl⟩:=hy;have:i % 2=0\/i % 2=1:=by omega
 show((#[Value.string ByteArray.empty,Value.int .u32 0]:Array Value)[i % 2]!).oneCell'=true;rcases this with h|h<;>rw[h]<;>rfl
theorem zd2 {b o i c z:Nat}:∃ off,zh (some ⟨b,o,none⟩) i c z=some ⟨b,off,none⟩/\(i≠c->off=o+i*z):=by
 unfold zh;split
 ·rename_i hh;exact⟨o,rfl,fun h=>absurd hh.symm h⟩
 ·exact⟨o+i*z,by simp[zw],fun _=>rfl⟩
theorem zhI {α:Type} {l:List α} {i:Nat}:l.eraseIdx i=l.take i++l.drop (i+1):=List.eraseIdx_eq_take_drop_succ l i
theorem zf4 {A:Option Addr} {n c i:Nat} {B0:Nat} {xs:List Snp} (h:Owni zA 64 w B0 A n c xs) (hi:i<n) (hn:n<=1000000):
  Calls prog 46 #[.slice A n c,.int .i64 (i:Int),.int .i64 ((i+1:Nat):Int)] w (Ret fun v w'=>v=.slice A (n-1) c/\Owni zA 64 w' B0 A (n-1) c (xs.eraseIdx i)/\Only (fun k=>orow A=some k) w w'):=by
 obtain⟨g,rfl⟩:=h.addr (by omega);have hl:=h.len;have hle:=h.le;obtain⟨cs,hb,hcl,hct,hB⟩:=zhH h;have hk2:zA.k=2:=rfl;rw[hk2]at hcl hct;apply zof;unfold S46;refine zC ⟨by omega,by omega,by omega,by omega⟩ ?_;refine zd (beq_eq_false_iff_ne.2 (by omega)) ?_;refine zS fun w1 he1 hz1 hh1=>?_;have hb1:=hb.ext he1;refine zC ⟨by omega,by omega⟩ (zC ⟨by omega,by omega⟩ ?_);rw[Int.toNat_natCast,Int.toNat_natCast];have e0:zh (some (aD g)) 0 c 2=some ⟨g,0,none⟩:=by
  unfold zh;rw[if_neg (by omega)];simp[zw]
 rw[e0];obtain⟨off,ec,ho⟩:=zd2 (b:=g) (o:=0) (i:=i+1) (c:=c) (z:=2);rw[ec];have hflat:=zA.yz xs;rw[hk2]at hflat;have hxd:zA.flat (xs.drop (i+1))=(zA.flat xs).drop ((i+1)*2):=by rw[<- hk2,zA.uY]
 have hxt:zA.flat (xs.take i)=(zA.flat xs).take (i*2):=by rw[<- hk2,zA.uZ]
 have hyl:(zA.flat (xs.drop (i+1))).length=(n-(i+1))*2:=by rw[zA.yz,length_drop,hl];rfl
 refine ziu (k:=2) qS hb1 (by omega) (by omega) hyl (fun j u hj=>?_) (zA.vm _) ?_
 ·have hjl:=(List.getElem?_eq_some_iff.1 hj).1;rw[hyl]at hjl;rw[ho (by omega),zw,hb1.cell];rw[hxd,List.getElem?_drop,<- hct,List.getElem?_take,if_pos (by omega)]at hj;rw[show 0+(i+1)*2+j=(i+1)*2+j by omega];exact hj
 ·intro w2 hb2 hg2;have en:i+(n-(i+1))=n-1:=by omega
  rw[en];dsimp only;refine zC ⟨by omega,by omega,by omega⟩ ?_;rw[Int.toNat_natCast,Int.toNat_natCast];have ec2:zh (some (aD g)) (n-1) c 2=some ⟨g,(n-1)*2,none⟩:=by
   unfold zh;rw[if_neg (by omega)];simp[zw]
  rw[ec2,show n-(n-1)=1 by omega];have hl2:(cs.take (0+i*2)++zA.flat (xs.drop (i+1))++cs.drop (0+i*2+(n-(i+1))*2)).length=c*2:=by
   rw[length_append,length_append,length_take,length_drop,hyl];omega
  refine zpU (k:=2) qS hb2 (by rw[hl2];omega) (zne 1) ?_;intro v w3 zs hzl hb3 hg3;have hfl:(cs.take (0+i*2)++zA.flat (xs.drop (i+1))++cs.drop (0+i*2+(n-(i+1))*2)).take ((n-1)*2)=zA.flat (xs.eraseIdx i):=by
   rw[take_left' (by rw[length_append,length_take,hyl];omega),zhI,zA.j8,hxt,<- hct,List.take_take];congr 2;omega
  have hg12:w1.grownBy w3 (some g):=yU hg2 hg3 (fun j hj=>.inl hj);refine⟨rfl,zfh hb3 ?_ ?_ ?_ (by omega) (by omega) hB,Only.trans (Only.zz he1) (Only.zY (F:=fun k=>orow (some (aD g))=some k) hg12 (fun j hj=>.inl hj)) (fun j hj=>.inl hj)⟩
  ·rw[length_append,length_append,length_take,length_drop,hl2,hzl,hk2];omega
  ·rw[hk2,append_assoc,List.take_append_of_le_length (by rw[length_take,hl2];omega),List.take_take,Nat.min_self,hfl]
  ·rw[zhI,length_append,length_take,length_drop,hl];omega
theorem zhJ {P:Program} {t tn e:TypeId} {z:Value} {k bytes:Nat} {kn:IntKind} {w:World} {g n c q:Nat} {ty t2:TypeId} {cs:List Value} {K:SLC->WP} (hE:qq P t e z k bytes) (hu:P.underlying tn=some (.int kn)) (hk:0<k) (hb:Blk w g cs t2) (ho:n*k<=cs.length) (hq0:0<q) (hq:c<n+q)
  (hlen:(n+q)*bytes<=140737488355328) (hlen2:n+q<=140737488355328)
  (hK:∀ r w' c' zs,w.heap.size=r->zs.length+n*k=c'*k->n+q<=c'->c'<=9223372036854775807->Blk w' r (cs.take (n*k)++zs) e->Ext w w'->w'.heap.size=r+1->K (some ⟨r,0,none⟩,n+q,c') w'):
  zv P (Builtin.append_ #[t,tn] ty #[.slice (some ⟨g,0,none⟩) n c,.int .i64 (q:Int)]) .slc K w:=by
 obtain⟨ht,hi,hz⟩:=hE;obtain⟨i,hi,hii⟩:=Option.map_eq_some_iff.1 hi;simp only [Prod.mk.injEq]at hii;obtain⟨hz0,hz1,hz2⟩:=hii;have hb':Blk w.drew g cs t2:=hb;have hold:(Builtin.firstCells i.size n (.slice (some ⟨g,0,none⟩) n c)).run P w.drew=.ok (cs.take (n*k)).toArray w.drew:=by
  have hload:=run_loadCells_list (P:=P) w.drew ⟨g,0,none⟩ (cs.take (n*k)) (fun j v hj=>by
   rw[zw,hb'.cell,Nat.zero_add]
   rw[List.getElem?_take]at hj
   split at hj
   ·exact hj
   ·cases hj)
  rw[length_take,Nat.min_eq_left ho]at hload;simp[Builtin.firstCells,hz1,hload]
 have hqb:q*i.bytes<=281474976710656:=by
  have:=Nat.mul_le_mul_right bytes (show q<=n+q by omega);rw[hz2];omega
 have hr:=Go.Lib.run_append_grow_zeros (P:=P) w t tn ty e i z .i64 kn ht hu hi hz0 (some ⟨g,0,none⟩) n c (cs.take (n*k)) hold q hq0 (by omega) hq (by omega) hqb (growslice_fits hq (by rw[hz2];exact hlen));have hge:=grownCap_ge w (n+q) c e;have hcm2:=grownCap_le_maxLen w (n+q) c e (by simp only [maxLen];omega);have hmul:grownCap w (n+q) c e*k=(n+q)*k+(grownCap w (n+q) c e-(n+q))*k:=by rw[<- Nat.add_mul];congr 1;omega
 refine⟨(some ⟨w.heap.size,0,none⟩,n+q,grownCap w (n+q) c e),_,hr,hK w.heap.size _ _ ((Builtin.zeroCells z.cells q).toList++(Builtin.zeroCells z.cells (grownCap w (n+q) c e-(n+q))).toList) rfl ?_ hge hcm2 ?_ ((Ext.refl w).drew.alloc _) (by simp)⟩
 ·rw[length_append,Array.length_toList,Array.length_toList,size_zeroCells,size_zeroCells,hz,hmul,Nat.add_mul];omega
 ·show(w.drew.alloc _).heap[w.heap.size]?=_;rw[show w.heap.size=w.drew.heap.size from rfl,heap_alloc_new];congr 2;apply Array.toList_inj.1;simp
theorem zfN {w:World} {b:Nat} {cs:List Value} {t:TypeId} (h:Blk w b cs t):w.shape? b=some (t,cs.length):=by
 unfold World.shape?;have:w.heap[b]?=some (.cells cs.toArray t (0,0)):=h;rw[this];simp
theorem zhK {w:World} {r g o1 n c1 c2:Nat} {vs cs:List Value} {t1 t2:TypeId} (hr:Blk w r vs t1) (hg:Blk w g cs t2) (hne:r≠g) (hcs:cs.length≠0):
  (zeJ 81 #[.slice (some ⟨r,0,none⟩) 1 c1,.slice (some ⟨g,o1,none⟩) n c2]).run prog w=.ok (.bool false) w:=by
 unfold zeJ;rw[Sem.run_bind];rw[run_callFunc_extern (fn:=Tryz.f81) (by kernel_rfl) (by kernel_rfl) (by kernel_rfl) (by kernel_rfl) (e:=Extern.SlicesOverlaps.overlaps #[28,28] #[4]) (by kernel_rfl),
  Lib.run_overlaps_apart w 28 4 64 (by kernel_rfl) 2 (fun w=>ux (t:=64) (n:=2) (by kernel_rfl) w) ⟨r,0,none⟩ ⟨g,o1,none⟩ 1 c1 n c2 hne t1 t2 vs.length cs.length (zfN hr) (zfN hg) hcs (hr.frozen _) (hr.frozen _)]
 rfl
theorem ky {α:Type} {x:α}:∀ {l:List α} {i:Nat},i<=l.length->l.insertIdx i x=l.take i++[x]++l.drop i
 |l,0,_=>by simp
 |[],i+1,h=>by simp at h
 |a::l,i+1,h=>by
  rw[List.insertIdx_succ_cons,ky (l:=l) (i:=i) (by simpa using h)];simp
theorem zf5 {A:Option Addr} {n c i r rc:Nat} {B0:Nat} {xs:List Snp} {x:Snp} (h:Owni zA 64 w B0 A n c xs) (hB:B0<=w.heap.size) (hi:i<=n) (hn:n<=1000000) (hr:Blk w r (zA.f x) 64) (hrA:orow A≠some r):
  Calls prog 38 #[.slice A n c,.int .i64 (i:Int),.slice (some ⟨r,0,none⟩) 1 rc] w (Ret fun v w'=>∃ A' c',v=.slice A' (n+1) c'/\Owni zA 64 w' B0 A' (n+1) c' (xs.insertIdx i x)/\Only (fun k=>orow A=some k) w w'):=by
 have hl:=h.len;have hle:=h.le;have hk2:zA.k=2:=rfl;have hflat:=zA.yz xs;rw[hk2]at hflat;have hfx:(zA.f x).length=2:=zA.len x;apply zn9;unfold S38;refine zC ⟨by omega,by omega⟩ (zd (by rfl) ?_);refine zg (fun hq=>?_) (fun hq=>?_)
 ·-- at the end
  have hin:i=n:=by have:=beq_iff_eq.1 hq;omega
  subst hin;refine xk qS h hB (Sli.xA (E:=zA) (xs:=[x]) (by simpa [Enc.flat] using hr) rfl (by omega)) (by omega) (by omega) ?_;intro A' c' w' ho hg _;refine⟨A',c',rfl,?_,Only.zY hg.grown (fun j hj=>.inl hj)⟩;rw[ky (by omega),take_of_length_le (by omega),List.drop_eq_nil_of_le (by omega),append_nil];exact ho
 have hin:i<n:=by have:=beq_eq_false_iff_ne.1 hq;omega
 obtain⟨g,rfl⟩:=h.addr (by omega);obtain⟨cs,hb,hcl,hct,hBg⟩:=zhH h;rw[hk2]at hcl hct;have hrg:r≠g:=fun e=>hrA (by rw[e];rfl);have hwn:wrap .i64 (((n:Nat):Int)+((1:Nat):Int))=((n+1:Nat):Int):=by rw[wrap_i64 (by omega) (by omega)];omega
 have hwi:wrap .i64 ((i:Int)+((1:Nat):Int))=((i+1:Nat):Int):=by rw[wrap_i64 (by omega) (by omega)];omega
 have e0:zh (some (aD g)) 0 c 2=some ⟨g,0,none⟩:=by
  unfold zh;split<;>simp[zw]
 have hxd:zA.flat (xs.drop i)=(zA.flat xs).drop (i*2):=by rw[<- hk2,zA.uY]
 have hxt:zA.flat (xs.take i)=(zA.flat xs).take (i*2):=by rw[<- hk2,zA.uZ]
 have hdl:(zA.flat (xs.drop i)).length=(n-i)*2:=by rw[zA.yz,length_drop,hl];rfl
 have htl:(zA.flat (xs.take i)).length=i*2:=by rw[zA.yz,length_take,Nat.min_eq_left (by omega)];rfl
 have hins:zA.flat (xs.insertIdx i x)=zA.flat (xs.take i)++zA.f x++zA.flat (xs.drop i):=by
  rw[ky (by omega),zA.j8,zA.j8];simp[Enc.flat]
 have hinsl:(xs.insertIdx i x).length=n+1:=by rw[ky (by omega),length_append,length_append,length_take,length_drop];simp;omega
 rw[hwn,hwi];simp only [Int.toNat_natCast];rw[e0];have srcD:∀ {w1:World} {cs1:List Value} {t1:TypeId},Blk w1 g cs1 t1->cs1.take (n*2)=zA.flat xs->∀ j u,(zA.flat (xs.drop i))[j]?=some u->w1.cell? ((⟨g,i*2,none⟩:Addr).add j)=some u:=by
  intro w1 cs1 t1 hb1 ht1 j u hj;have hjl:=(List.getElem?_eq_some_iff.1 hj).1;rw[hdl]at hjl;rw[zw,hb1.cell];rw[hxd,List.getElem?_drop,<- ht1,List.getElem?_take,if_pos (by omega)]at hj;exact hj
 have srcX:∀ {w1:World},Blk w1 r (zA.f x) 64->∀ j u,(zA.f x)[j]?=some u->w1.cell? ((aD r).add j)=some u:=by
  intro w1 hb1 j u hj;rw[zw,hb1.cell,Nat.zero_add];exact hj
 have ci:zh (some (aD g)) i c 2=some ⟨g,i*2,none⟩:=by
  unfold zh;rw[if_neg (by omega)];simp[zw]
 rw[ci];refine zg (fun hgr=>?_) (fun hgr=>?_)
 ·-- no room
  have hgr:=of_decide_eq_true hgr;have hcn:c=n:=by omega
  refine zC ⟨by omega,by omega⟩ ?_;have hq1:wrap .i64 (((n+1:Nat):Int)-(i:Int))=((n+1-i:Nat):Int):=by rw[wrap_i64 (by omega) (by omega)];omega
  rw[hq1];refine zhJ (k:=2) qS (kn:=.i64) (by kernel_rfl) (by omega) hb (by omega) (by omega) (by omega) (by omega) (by omega) ?_;intro s w1 c1 zs hs1 hzl hc1 hc2 hb1 he1 hz1;have en:i+(n+1-i)=n+1:=by omega
  rw[en]at hc1 ⊢;dsimp only;refine zC ⟨by omega,by omega⟩ ?_;have ci1:zh (some (aD s)) i c1 2=some ⟨s,i*2,none⟩:=by
   unfold zh;rw[if_neg (by omega)];simp[zw]
  rw[ci1];have hr1:=hr.ext he1;have hbl1:(cs.take (i*2)++zs).length=c1*2:=by rw[length_append,length_take];omega
  have hm1:min 1 (n+1-i)=1:=by omega
  refine zgd (k:=2) qS hb1 (by rw[hm1,hbl1];omega) (by rw[hm1,hfx]) (srcX hr1) (zA.one x) ?_;intro _ w2 hb2 hg2;rw[hm1]at hb2;refine zS fun w3 he3 hz3 hh3=>?_;have hb3:=hb2.ext he3;refine zC ⟨by omega,by omega⟩ (zC ⟨by omega,by omega⟩ ?_);obtain⟨off,ec,ho⟩:=zd2 (b:=s) (o:=0) (i:=i+1) (c:=c1) (z:=2);rw[ec];have hoff:off=(i+1)*2:=by have:=ho (by omega);omega
  rw[hoff];have hgs:g≠s:=fun e=>by have:=hb.lt;omega
  have hbg3:Blk w3 g cs 64:=((hb.ext he1).grown hg2 (fun e=>hgs (by injection e))).ext he3;have hm2:min (n-i) (n+1-(i+1))=n-i:=by omega
  have hl3:((cs.take (i*2)++zs).take (i*2)++zA.f x++(cs.take (i*2)++zs).drop (i*2+1*2)).length=c1*2:=by
   rw[length_append,length_append,length_take,length_drop,hbl1,hfx];omega
  refine zgd (k:=2) qS hb3 (by rw[hm2,hl3];omega) (by rw[hm2,hdl]) (srcD hbg3 hct) (zA.vm _) ?_;intro _ w4 hb4 hg4;rw[hm2]at hb4;refine⟨_,c1,rfl,zfh hb4 ?_ ?_ hinsl (by omega) (by omega) (by omega),?_⟩
  ·rw[length_append,length_append,length_take,length_drop,hl3,hdl,hk2];omega
  ·have e1:(cs.take (i*2)++zs).take (i*2)=zA.flat (xs.take i):=by
    rw[take_left' (by rw[length_take];omega),hxt,<- hct,List.take_take,Nat.min_eq_left (by omega)]
   have e2:((cs.take (i*2)++zs).take (i*2)++zA.f x++(cs.take (i*2)++zs).drop (i*2+1*2)).take ((i+1)*2)=zA.flat (xs.take i)++zA.f x:=by
    rw[e1];exact take_left' (by rw[length_append,htl,hfx];omega)
   rw[e2,hins,hk2];exact take_left' (by rw[length_append,length_append,htl,hfx,hdl];omega)
  ·refine Only.trans (Only.trans (Only.trans (Only.zz he1) (Only.zY (F:=fun k=>orow (some (aD g))=some k\/k=s) hg2 (fun j hj=>.inl (.inr (by injection hj with hj;exact hj.symm)))) (fun j hj=>?_)) (Only.zz (F:=fun k=>orow (some (aD g))=some k\/k=s) he3) (fun j hj=>?_)) (Only.zY (F:=fun k=>orow (some (aD g))=some k\/k=s) hg4 (fun j hj=>.inl (.inr (by injection hj with hj;exact hj.symm)))) (fun j hj=>?_)
   all_goals
    rcases hj with e|e
    ·exact .inl e
    ·exact .inr (by omega)
 ·-- there is room
  have hgr:=of_decide_eq_false hgr;have hroom:n+1<=c:=by omega
  refine zC ⟨by omega,by omega⟩ (zC ⟨by omega,by omega⟩ ?_);obtain⟨off,ec,ho⟩:=zd2 (b:=g) (o:=0) (i:=i+1) (c:=c) (z:=2);have hoff:off=(i+1)*2:=by have:=ho (by omega);omega
  rw[hoff]at ec;rw[ec];refine⟨false,w,zhK hr hb hrg (by omega),?_⟩;refine zf (by rfl) ?_;refine zS fun w1 he1 hz1 hh1=>?_;have hb1:=hb.ext he1;have hr1:=hr.ext he1;refine zC ⟨by omega,by omega⟩ (zC ⟨by omega,by omega⟩ ?_);have hm2:min (n+1-i) (n+1-(i+1))=n-i:=by omega
  refine zgd (k:=2) qS hb1 (by rw[hm2];omega) (by rw[hm2,hdl]) (srcD hb1 hct) (zA.vm _) ?_;intro _ w2 hb2 hg2;rw[hm2]at hb2;have hr2:Blk w2 r (zA.f x) 64:=hr1.grown hg2 (fun e=>hrg (by injection e));refine zC ⟨by omega,by omega⟩ ?_;have hm1:min 1 (n+1-i)=1:=by omega
  have hl2:(cs.take ((i+1)*2)++zA.flat (xs.drop i)++cs.drop ((i+1)*2+(n-i)*2)).length=c*2:=by
   rw[length_append,length_append,length_take,length_drop,hdl];omega
  refine zgd (k:=2) qS hb2 (by rw[hm1,hl2];omega) (by rw[hm1,hfx]) (srcX hr2) (zA.one x) ?_;intro _ w3 hb3 hg3;rw[hm1]at hb3;refine⟨_,c,rfl,zfh hb3 ?_ ?_ hinsl (by omega) (by omega) hBg,?_⟩
  ·rw[length_append,length_append,length_take,length_drop,hl2,hfx,hk2];omega
  ·have e1:(cs.take ((i+1)*2)++zA.flat (xs.drop i)++cs.drop ((i+1)*2+(n-i)*2)).take (i*2)=zA.flat (xs.take i):=by
    rw[append_assoc,List.take_append_of_le_length (by rw[length_take];omega),List.take_take,hxt,<- hct,List.take_take];congr 1;omega
   have e2:(cs.take ((i+1)*2)++zA.flat (xs.drop i)++cs.drop ((i+1)*2+(n-i)*2)).drop (i*2+1*2)=zA.flat (xs.drop i)++cs.drop ((i+1)*2+(n-i)*2):=by
    rw[append_assoc,drop_left' (by rw[length_take];omega)]
   rw[e1,e2,hins,hk2,<- append_assoc];exact take_left' (by rw[length_append,length_append,htl,hfx,hdl];omega)
  ·have hgg:w1.grownBy w3 (some g):=yU hg2 hg3 (fun j hj=>.inl hj);exact Only.trans (Only.zz he1) (Only.zY (F:=fun k=>orow (some (aD g))=some k) hgg (fun j hj=>.inl hj)) (fun j hj=>.inl hj)
end V
/- Spaces of which nothing is owned:plain. Leaves that are dropped. -/
namespace V
open Go Go.Proofs Go.RowKit Crc
theorem zbI {U:Nat->Bool} (r:Nat->Nat):∀ N:Nat,(∃ n,n<N/\U n=true)->∃ n,n<N/\U n=true/\∀ m,m<N->U m=true->r m<=r n
 |0,⟨n,h,_⟩=>by omega
 |N+1,h=>by
  by_cases hN:∃ n,n<N/\U n=true
  ·obtain⟨n,h1,h2,h3⟩:=zbI r N hN
   by_cases hu:U N=true
   ·by_cases hr:r N<=r n
    ·refine⟨n,by omega,h2,fun m hm hum=>?_⟩
     by_cases e:m=N
     ·subst e;exact hr
     ·exact h3 m (by omega) hum
    ·refine⟨N,by omega,hu,fun m hm hum=>?_⟩
     by_cases e:m=N
     ·subst e;exact Nat.le_refl _
     ·have:=h3 m (by omega) hum;omega
   ·refine⟨n,by omega,h2,fun m hm hum=>?_⟩
    by_cases e:m=N
    ·subst e;exact absurd hum hu
    ·exact h3 m (by omega) hum
  ·obtain⟨n,h1,h2⟩:=h;have e:n=N:=by
    by_cases e:n<N
    ·exact absurd ⟨n,e,h2⟩ hN
    ·omega
   subst e;refine⟨n,by omega,h2,fun m hm hum=>?_⟩
   by_cases e:m=n
   ·subst e;exact Nat.le_refl _
   ·exact absurd ⟨m,by omega,hum⟩ hN
theorem zlf {N:Nat} {ps:List Nat} {pg:PgF} {c:List Nat} (h:yf N ps pg c []) (n:Nat):zG ps c n=false:=by
 cases hq:zG ps c n with
 |false=>rfl
 |true=>
  exfalso
  obtain⟨r,hr⟩:=h.rank;obtain⟨m,m1,m2,m3⟩:=zbI (U:=zG ps c) r N ⟨n,h.lt hq,hq⟩;obtain⟨a1,a2,a3⟩:=zM.1 m2;have hs:=h.sum m a1 a2;rw[List.count_nil,Nat.zero_add]at hs;have:∃ k,k<N/\xx ps pg c m k≠0:=by
   apply Classical.byContradiction;intro hno;have:jr N ps pg c m=0:=by
    unfold jr;rw[zad (g:=fun _=>0) (fun k hk=>by
     apply Classical.byContradiction
     intro hk0
     exact hno ⟨k,hk,hk0⟩)]
    exact vN N
   omega
  obtain⟨k,hk,hk0⟩:=this;unfold xx at hk0;split at hk0
  ·rename_i huk;have hm:m∈yh pg k:=List.count_pos_iff.1 (by omega);have:=hr k huk m hm;have:=m3 k hk huk;omega
  ·exact hk0 rfl
theorem zfO {N:Nat} {ps:List Nat} {pg:PgF} {c:List Nat} (h:yf N ps pg c []) {n:Nat} (h2:2<=n) (hp:n∉ps):c.getD n 0=0:=by
 have:=zlf h n;cases hq:c.getD n 0 with
 |zero=>rfl
 |succ k=>
  rw[zM.2 ⟨h2,hp,by omega⟩]at this;cases this
theorem zkb {S:Spa} (h:Great S [] [] none) (hm:S.mark=none):S.zR+S.sup.pages.length+2=S.N:=by
 have hP:=h.heldOK.znw h.good;have hN:=h.good.dims.n;have hmem:∀ n,n∈S.yi↔2<=n/\n<S.N/\n∉S.sup.pages:=by
  intro n;rw[vM];constructor
  ·rintro⟨a1,a2,a3⟩;refine⟨a2,a1,fun e=>?_⟩;have:=(hP.at_ n e).2.2;have:=(zN.1 a3).1;omega
  ·rintro⟨a1,a2,a3⟩;refine⟨a2,a1,zN.2 ⟨zfO h.good.well a1 a3,zfO h.hwell a1 a3,by rw[hm];rfl⟩⟩
 have hnd:(0::1::(S.sup.pages++S.yi)).Nodup:=by
  rw[nodup_cons,nodup_cons,List.nodup_append];refine⟨?_,?_,hP.nodup,zmW S,?_⟩
  ·simp only [mem_cons,mem_append,not_or];exact⟨by omega,fun e=>by have:=(hP.at_ 0 e).1;omega,fun e=>by have:=((hmem 0).1 e).1;omega⟩
  ·simp only [mem_append,not_or];exact⟨fun e=>by have:=(hP.at_ 1 e).1;omega,fun e=>by have:=((hmem 1).1 e).1;omega⟩
  ·intro a ha b hb e;subst e;exact((hmem a).1 hb).2.2 ha
 have h1:=zae hnd (b:=List.range S.N) (fun x hx=>by
  rw[mem_range]
  simp only [mem_cons,mem_append]at hx
  rcases hx with e|e|e|e
  ·omega
  ·omega
  ·exact(hP.at_ x e).2.1
  ·exact((hmem x).1 e).2.1)
 have h2:=zae (List.nodup_range (n:=S.N)) (b:=0::1::(S.sup.pages++S.yi)) (fun x hx=>by
  have hx:=mem_range.1 hx
  simp only [mem_cons,mem_append]
  by_cases e:x<2
  ·omega
  ·by_cases e2:x∈S.sup.pages
   ·exact .inr (.inr (.inl e2))
   ·exact .inr (.inr (.inr ((hmem x).2 ⟨by omega,hx,e2⟩))))
 rw[length_range]at h1 h2;simp only [length_cons,length_append]at h1 h2;unfold Spa.zR;omega
end V
/- The space that laws on catalogs begin with;what stays,whatever a space does. -/
namespace V
open Go Go.Proofs Go.RowKit Crc
def S0:Spa:=qm (zdK 256 256)
theorem zfi:ya 256 256=true:=by decide
theorem znA:zJ 256 256=3:=by decide
theorem znf:chk (xj 256 256)=0:=by
 have h:=zo3 (size:=256) (N:=256) zfi;rw[h,znA]
 decide
theorem vt:Great S0 [] [] none:=(uP (zgc zfi) znf).2.1
theorem zp9:(yJ (zdK 256 256)).2=0:=(uP (zgc zfi) znf).1
theorem zhL:S0.dev.pen=[]:=(uP (zgc zfi) znf).2.2
theorem zlg:S0.sup=xj 256 256:=rfl
theorem zpm:S0.mark=none:=rfl
theorem zbJ:S0.sup.pages.length=3:=by rw[zlg];show(xH (zJ 256 256)).length=3;rw[kg,znA]
theorem zkc:S0.r0=238:=by unfold Spa.r0 Spa.room;rw[zlg];decide
theorem znB:qt 238=13804:=by decide
theorem zqi:S0.N=256:=rfl
theorem zfj:S0.zR=251:=by
 have:=zkb vt zpm;rw[zbJ,zqi]at this;omega
structure St (w0 w:World) (b db:Nat) (S:Spa) (F:Nat->Prop):Prop where
 sp:zV w b db S F
 low:∀ k,F k->w0.heap.size<=k
 ext:Ext w0 w
def Safe (F:Nat->Prop) (w:World) (P:World->Prop):Prop:=∀ w',Only F w w'->P w'
variable {w0 w w':World} {b db:Nat} {S S':Spa} {F F':Nat->Prop} {P:World->Prop}
theorem Safe.now (h:Safe F w P):P w:=h w (Only.refl F w)
theorem Safe.ext (h:Safe F w P) (he:Ext w w'):Safe F w' P:=fun w'' o=>h w'' (Only.trans (Only.zz he) o (fun j hj=>.inl hj))
theorem Safe.step (h:Safe F w P) (o:Only F w w') (hF:∀ k,F' k->F k\/w.heap.size<=k):Safe F' w' P:=fun w'' o2=>h w'' (Only.trans o o2 hF)
theorem Safe.mono {Q:World->Prop} (h:Safe F w P) (hQ:∀ w,P w->Q w):Safe F w Q:=fun w' o=>hQ _ (h w' o)
theorem St.ext' (h:St w0 w b db S F) (he:Ext w w'):St w0 w' b db S F:=⟨h.sp.ext he,h.low,h.ext.trans he⟩
theorem St.own (h:zV w b db S F) {x y:SLC} {c:Cat} (hc:z8 w' w.heap.size x y c):Safe F w' (fun w=>z8 w 0 x y c):=fun w2 o=>(hc.only o (fun k hk=>h.lt k hk)).lower (Nat.zero_le _)
theorem St.pre {w1:World} (he:Ext w0 w1) (h:St w1 w b db S F):St w0 w b db S F:=⟨h.sp,fun k hk=>Nat.le_trans he.size (h.low k hk),he.trans h.ext⟩
theorem At.zqj (h:At w0 w b db S):∃ F,St w0 w b db S F:=by
 obtain⟨F,h1,h2,h3⟩:=h;exact⟨F,h1,h2,h3⟩
theorem zlh {w1:World} {db:Nat} (h:zgN w0 (zdK 256 256) db w1):
  Calls prog 27 #[.pointer (some ⟨db,0,none⟩)] w1 (Ret fun v w'=>∃ b,v=.tuple #[.pointer (some ⟨b,0,none⟩),.int .i64 0]/\∃ F,St w0 w' b db S0 F):=by
 refine(zkR h (zgc zfi) (by show([]:List (Int×ByteArray)).length<=_;simp)).mono (Ret.mono ?_);rintro _ w3 (⟨hne,_⟩|⟨_,b,rfl,hat⟩)
 ·exact absurd zp9 hne
 ·exact⟨b,rfl,hat.zqj⟩
def strk:ByteArray:=ByteArray.mk #[107]
def strv:ByteArray:=ByteArray.mk #[118]
def pk:Col:=(strk,3,false)
def pv:Col:=(strv,1,true)
def zge:List Col:=[pk,pv]
theorem zng (w:World):Calls prog 29 #[] w (Ret fun v w'=>∃ r,v=.slice (some ⟨r,0,none⟩) 2 2/\Owni qw 95 w' w.heap.size (some ⟨r,0,none⟩) 2 2 zge/\Ext w w'):=by
 apply zn1;unfold S29;refine zq fun r w1 hb he hr hz=>⟨r,rfl,vC (E:=qw) (xs:=zge) (by exact hb) rfl (by omega) (by omega),he⟩
theorem zpn:xE zge=0:=by kernel_rfl
end V
/- Contracts of the package catalog:Share. -/
namespace V
open Go Go.Proofs Go.RowKit Crc
variable {w w':World} {b db:Nat} {S:Spa} {F:Nat->Prop} {R H:List Nat} {M:Option (List Nat)}
theorem zdr (x y:SLC) (c:Cat):(zW x y c).map (fun p=>p.2.2)=zU c:=by
 have:=zbE x y c;unfold zU;rw[<- this,map_map];rfl
theorem zli {x y:SLC} {c:Cat} {Asp:Option Addr} {n k i:Nat} {B0:Nat} {K:Int->WP} (hC:yH w x y c) (hs:Owni spE 135 w B0 Asp n k ((zW x y c).map spP)) (hi:i<(zW x y c).length) (hn:n=(zW x y c).length)
  (hK:∀ w' (p:Spt),Ext w w'->(zW x y c)[i]?=some p->K (p.2.2:Int) w'):
  (zc (0<=(i:Int)/\(i:Int)<((n:Nat):Int))<|
   zk Asp fun(p5:Addr)=>
   zl [(.int .u64),.ptr] (p5.add (Int.toNat (i:Int)*2)) fun(u6:(Int×Option Addr×Unit))=>
   zi (.cells #[(.int .u64 (0:Int)),(.pointer none)] 135) fun(r7:Nat)=>
   zc ((#[(.int .u64 u6.1),(.pointer u6.2.1)]:Array Value).size=2)<|
   zr (aD r7) [(.int .u64 u6.1),(.pointer u6.2.1)]<|
   ldW .ptr ((aD r7).add 1) fun(u8:Option Addr)=>
   zk u8 fun(p9:Addr)=>ldW (.int .u32) p9 K) w:=by
 have eg:(zW x y c)[i]?=some ((zW x y c)[i]'hi):=List.getElem?_eq_getElem hi;have hmem:(zW x y c)[i]'hi∈zW x y c:=getElem_mem hi;generalize (zW x y c)[i]'hi=p at *;refine jz hs.sl (by omega) (x:=spP p) (by rw[Int.toNat_natCast,List.getElem?_map,eg];rfl) rfl ?_;intro pa hpa hca;refine kj (ls:=[.int .u64,.ptr]) (x:=((p.1:Int),some p.2.1,())) hca ?_;refine yd (vs:=[.int .u64 (p.1:Int),.pointer (some p.2.1)]) (by rfl) (by
  intro v hv
  simp only [mem_cons,not_mem_nil,or_false]at hv
  rcases hv with rfl|rfl<;>rfl) (fun r7 w1 hb1 he1 hr1=>?_) (by rfl)
 refine zn 1 (some p.2.1) hb1 (by rfl) (zt ?_);exact zbg (l:=.int .u32) (x:=((p.2.2:Nat):Int)) (he1.cell (zaH hC p hmem)) (hK w1 p he1 eg)
theorem zfk (h:zV w b db S F) {x y:SLC} {c:Cat} (hC:Safe F w fun w=>yH w x y c) (h1:c.1.length<=1000) (h2:c.2.length<=1000) (hg:Great S R H M) (hu:∀ v∈zU c,zG S.sup.pages S.now v=true) (h6:∀ v∈zU c,S.now.getD v 0+(zU c).length<65535):
  Calls prog 35 #[.pointer (some ⟨b,0,none⟩),.agg (zB x y).toArray] w (Ret fun v w'=>v=.int .i64 0/\∃ c':List Nat,Great { S with now:=c' } (zU c++R) H M/\yM w b db F { S with now:=c' } w'/\∀ k,c'.getD k 0=S.now.getD k 0+(zU c).count k):=by
 apply zn6;unfold S35;have hFlt:=h.lt;refine zq fun r1 w1 hb1 he1 hr1 hz1=>?_;have hb1:Blk w1 r1 (zB x y) 30:=hb1;refine zb (zaG hb1 (hC.now.ext he1) h1 h2) ?_;rintro _ w2 ⟨Asp,ksp,rfl,hsp,he2⟩;refine⟨(Asp,(zW x y c).length,ksp),rfl,?_⟩;have he02:=he1.trans he2;have hs1:=he1.size;have hrs:=zdr x y c;have hspl:=zai x y c;have hkv:=zeE c;have hrl:(zU c).length=(zW x y c).length:=by rw[<- hrs,length_map]
 have hsafe:Safe F w2 (fun w=>yH w x y c/\Owni spE 135 w w1.heap.size Asp (zW x y c).length ksp ((zW x y c).map spP)):=fun w3 o=>⟨(hC.ext he02) w3 o,hsp.only o (fun j hj hf=>by have:=hsp.row j hj;have:=hFlt j hf;omega)⟩;refine zE (fun q w'=>∃ (i:Nat) (F':Nat->Prop) (c':List Nat),i<=(zW x y c).length/\q=((i:Int),())/\zV w' b db { S with now:=c' } F'/\(∀ k,F' k->F k\/w.heap.size<=k)/\Only F w w'/\Great { S with now:=c' } (((zU c).take i).reverse++R) H M/\(∀ k,c'.getD k 0=S.now.getD k 0+((zU c).take i).count k)/\Safe F' w' (fun w=>yH w x y c/\Owni spE 135 w w1.heap.size Asp (zW x y c).length ksp ((zW x y c).map spP))) (fun q=>((zW x y c).length-q.1).toNat)
  ⟨0,F,S.now,by omega,rfl,h.ext he02,fun k hk=>.inl hk,Only.zz he02,by exact hg,fun k=>by simp,hsafe⟩ ?_
 rintro _ w3 ⟨i,F',c',hi,rfl,g1,g2,g3,g4,g5,g6⟩;dsimp only
 by_cases hlt:i<(zW x y c).length
 ·refine zf (decide_eq_true (by omega)) ?_;refine zli g6.now.1 g6.now.2 hlt rfl ?_;intro w4 p he4 hp;have hpr:(zU c)[i]?=some p.2.2:=by rw[<- hrs,List.getElem?_map,hp];rfl
  have hmem:=mem_of_getElem? hpr;have hcnt:((zU c).take i).count p.2.2<=(zU c).length:=by
   have:=List.count_le_length (a:=p.2.2) (l:=(zU c).take i);rw[length_take]at this;omega
  have h6':=h6 _ hmem;have huu:=hu _ hmem;have hu':zG S.sup.pages c' p.2.2=true:=by
   obtain⟨u1,u2,u3⟩:=zM.1 huu;exact zM.2 ⟨u1,u2,by rw[g5];omega⟩
  have h65:c'.getD p.2.2 0<65535:=by rw[g5];omega
  refine zb (zg7 (g1.ext he4) (n:=p.2.2) g4 (by exact hu') (by exact h65)) ?_;rintro _ w5 ⟨rfl,hG,F5,k1,k2,k3⟩;refine⟨_,rfl,zd (by rfl) ?_⟩;have hw:wrap .i64 ((i:Int)+1)=((i+1:Nat):Int):=by rw[wrap_i64 (by omega) (by omega)];rfl
  rw[hw];have o35:Only F' w3 w5:=Only.trans (Only.zz he4) k3 (fun j hj=>.inl hj);have hs4:=he4.size;have htk:(zU c).take (i+1)=(zU c).take i++[p.2.2]:=by
   have hlt':i<(zU c).length:=by omega
   rw[take_succ_eq_append_getElem hlt'];rw[List.getElem?_eq_getElem hlt']at hpr;injection hpr with hpr
   rw[hpr]
  have hnN:p.2.2<c'.length:=by
   have h1:=g4.good.well.lt hu';have h2:=g4.good.ok.now;have h3:({ S with now:=c' }:Spa).now.length=({ S with now:=c' }:Spa).N:=h2;have h4:p.2.2<({ S with now:=c' }:Spa).N:=h1;have h5:c'.length=({ S with now:=c' }:Spa).N:=h3;omega
  refine⟨⟨i+1,F5,_,by omega,rfl,k1,fun k hk=>?_,Only.trans g3 o35 (fun j hj=>by
   have:=g2 j hj
   exact this),by rw[htk,List.reverse_append];exact hG,fun k=>?_,g6.step o35 (fun k hk=>?_)⟩,by omega⟩
  ·rcases k2 k hk with e|e
   ·exact g2 k e
   ·have:=g3.2.2.2.1;exact .inr (by omega)
  ·rw[yn,htk,List.count_append,List.count_singleton]
   by_cases e:p.2.2=k
   ·subst e;rw[if_pos ⟨rfl,hnN⟩,g5];simp;omega
   ·rw[if_neg (fun e'=>e e'.1),g5];simp[e]
  ·rcases k2 k hk with e|e
   ·exact .inl e
   ·exact .inr (by omega)
 ·obtain rfl:i=(zW x y c).length:=by omega
  refine zd (decide_eq_false (by omega)) ?_;rw[take_of_length_le (by omega)]at g4 g5;exact⟨rfl,c',g4.perm (by exact(List.reverse_perm _).append_right R),⟨F',g1,g2,g3⟩,g5⟩
end V
/- Contracts of the package catalog:Get of no page;of a page that can not be got. -/
namespace V
open Go Go.Proofs Go.RowKit Crc
variable {w w':World} {b db:Nat} {S:Spa} {F:Nat->Prop} {R:List Nat}
theorem zf6 (w:World) (p:Option Addr):Calls prog 43 #[.pointer p,.int .u32 0] w (Ret fun v w'=>v=.tuple #[.agg (zB (none,0,0) (none,0,0)).toArray,.int .i64 0]/\Ext w w'):=by
 apply zeV;unfold S43;refine zq fun r1 w1 hb1 he1 hr1 hz1=>?_;refine zf (by rfl) ?_;refine refill (vs:=zB (none,0,0) (none,0,0)) hb1 (by rfl) (ye _ _) (by rfl) ?_;intro w2 hb2 hx2 hk2 hz2;refine zK (ls:=yy) (yl (none,0,0) (none,0,0)) hb2 (by rfl) ⟨rfl,hx2 w he1 (by omega)⟩
theorem znh (h:zV w b db S F) {n:Nat} (hn:n<4294967296) (he:(S.get n).2≠0):
  Calls prog 157 #[.pointer (some ⟨b,0,none⟩),.int .u32 (n:Int)] w (Ret fun v w'=>(∃ a1 a2 a3 a4:Value,v=.tuple #[.agg #[.int .u8 0,.slice none 0 0,.slice none 0 0,.slice none 0 0],.int .i64 (S.get n).2])/\Ext w w'):=by
 apply zgH;unfold S157;refine zq fun r1 w1 hb1 he1 hr1 hz1=>?_;refine zb (zex (h.ext he1) hn) ?_;rintro _ w2 ⟨y,rfl,ho,he2⟩;refine⟨(pgT (S.get n).1 y,(S.get n).2,()),rfl,?_⟩;refine yd (vs:=pgV (S.get n).1 y) (by rfl) (jo _ _) (fun r2 w3 hb3 he3 hr3=>?_) (by rfl);refine zf (bne_iff_ne.2 he) ?_;refine refill (vs:=[.int .u8 0,.slice none 0 0,.slice none 0 0,.slice none 0 0]) ((hb1.ext he2).ext he3) (by rfl) (by
  intro v hv
  simp only [mem_cons,not_mem_nil,or_false]at hv
  rcases hv with rfl|rfl|rfl|rfl<;>rfl) (by rfl) ?_
 intro w4 hb4 hx4 hk4 hz4;exact zK (ls:=[.int .u8,.slc,.slc,.slc]) (0,(none,0,0),(none,0,0),(none,0,0),()) hb4 (by rfl) ⟨⟨.bool true,.bool true,.bool true,.bool true,rfl⟩,hx4 w ((he1.trans he2).trans he3) (by omega)⟩
theorem zni (h:zV w b db S F) {n:Nat} (hn:n<4294967296) (he:(S.get n).2≠0):
  Calls prog 126 #[.pointer (some ⟨b,0,none⟩),.int .u32 (n:Int),.int .i64 1,.bool true] w (Ret fun v w'=>v=.tuple #[.agg #[.int .i64 0,.int .u64 0,.int .u64 0,.int .u8 0,.int .i64 0],.int .i64 (S.get n).2]/\Ext w w'):=by
 apply zdJ;unfold S126;have one5:∀ v∈[Value.int .i64 0,.int .u64 0,.int .u64 0,.int .u8 0,.int .i64 0],v.oneCell'=true:=by
  intro v hv;simp only [mem_cons,not_mem_nil,or_false]at hv;rcases hv with rfl|rfl|rfl|rfl|rfl<;>rfl
 refine zq fun r1 w1 hb1 he1 hr1 hz1=>?_;refine zb (znh (h.ext he1) hn he) ?_;rintro _ w2 ⟨⟨_,_,_,_,rfl⟩,he2⟩;refine⟨((0,(none,0,0),(none,0,0),(none,0,0),()),(S.get n).2,()),rfl,?_⟩;refine yd (vs:=[.int .u8 0,.slice none 0 0,.slice none 0 0,.slice none 0 0]) (by rfl) (by
  intro v hv
  simp only [mem_cons,not_mem_nil,or_false]at hv
  rcases hv with rfl|rfl|rfl|rfl<;>rfl) (fun r3 w3 hb3 he3 hr3=>?_) (by rfl)
 refine zf (bne_iff_ne.2 he) ?_;have hb1':=(hb1.ext he2).ext he3;refine zK (ls:=[.int .i64,.int .u64,.int .u64,.int .u8,.int .i64]) (0,0,0,0,0,()) hb1' (by rfl) ?_;refine refill (vs:=[.int .i64 0,.int .u64 0,.int .u64 0,.int .u8 0,.int .i64 0]) hb1' (by rfl) one5 (by rfl) ?_;intro w4 hb4 hx4 hk4 hz4;exact zK (ls:=[.int .i64,.int .u64,.int .u64,.int .u8,.int .i64]) (0,0,0,0,0,()) hb4 (by rfl) ⟨rfl,hx4 w ((he1.trans he2).trans he3) (by omega)⟩
theorem zkd (h:zV w b db S F) {n:Nat} (hn:n<4294967296) (hn0:n≠0) (he:(S.get n).2≠0):
  Calls prog 85 #[.pointer (some ⟨b,0,none⟩),.int .u32 (n:Int)] w (Ret fun v w'=>v=.int .i64 (S.get n).2/\Ext w w'):=by
 apply ziJ;unfold S85;refine zd (by rfl) (zd (beq_eq_false_iff_ne.2 (by omega)) ?_);refine zb (zni h hn he) ?_;rintro _ w1 ⟨rfl,he1⟩;refine⟨((0,0,0,0,0,()),(S.get n).2,()),rfl,?_⟩;refine yd (vs:=[.int .i64 0,.int .u64 0,.int .u64 0,.int .u8 0,.int .i64 0]) (by rfl) (by
  intro v hv
  simp only [mem_cons,not_mem_nil,or_false]at hv
  rcases hv with rfl|rfl|rfl|rfl|rfl<;>rfl) (fun r3 w3 hb3 he3 hr3=>?_) (by rfl)
 exact⟨rfl,he1.trans he3⟩
theorem zke (h:zV w b db S F) {n:Nat} (hn:n<4294967296) (hn0:n≠0) (he:(S.get n).2≠0):
  Calls prog 43 #[.pointer (some ⟨b,0,none⟩),.int .u32 (n:Int)] w (Ret fun v w'=>v=.tuple #[.agg (zB (none,0,0) (none,0,0)).toArray,.int .i64 (S.get n).2]/\Ext w w'):=by
 apply zeV;unfold S43;refine zq fun r1 w1 hb1 he1 hr1 hz1=>?_;refine zd (beq_eq_false_iff_ne.2 (by omega)) ?_;refine zb (zkd (h.ext he1) hn hn0 he) ?_;rintro _ w2 ⟨rfl,he2⟩;refine⟨_,rfl,zf (bne_iff_ne.2 he) ?_⟩;refine refill (vs:=zB (none,0,0) (none,0,0)) (hb1.ext he2) (by rfl) (ye _ _) (by rfl) ?_;intro w3 hb3 hx3 hk3 hz3;refine zK (ls:=yy) (yl (none,0,0) (none,0,0)) hb3 (by rfl) ⟨rfl,hx3 w (he1.trans he2) (by omega)⟩
end V
/- Catalogs' names,in order:plain. -/
namespace V
open Go Go.Proofs Go.RowKit Crc
theorem zi1:∀ a:List UInt8,ltB a a=false
 |[]=>rfl
 |x::a=>by
  rw[ltB,zi1 a];simp
end V
/- Contracts of the package snaps:Find,Names,Tables. -/
namespace V
open Go Go.Proofs Go.RowKit Crc
variable {w w':World} {b db:Nat} {S:Spa} {F:Nat->Prop} {R H:List Nat} {M:Option (List Nat)}
def zpV (g:FuncId) (cap:Array Value) (q:Nat->Bool) (w:World) (l:List Snp):Prop:=∀ (w':World) i,Ext w w'->i<l.length->Calls prog g ([Value.agg (zA.f (l.getD i zP)).toArray]++cap.toList).toArray w' (Ret fun v w''=>v=.bool (q i)/\Ext w' w'')
theorem zcN {x:SLC} {l:List Snp} {g:FuncId} {cap:Array Value} {q:Nat->Bool} (hg:enterable prog g=true) (h:Sli zA w x.1 x.2.1 l) (ht:zpV g cap q w l):
  Calls prog 33 #[.slice x.1 x.2.1 x.2.2,.func (.func g) #[] cap] w (Ret fun v w'=>v=.int .i64 (if yB q l.length<l.length then (yB q l.length:Int) else -1)/\Ext w w'):=by
 have hl:=h.len;have hle:=h.le;apply zn4;unfold S33;refine zE (fun y w'=>∃ i:Nat,i<=l.length/\y=((i:Int),())/\Ext w w'/\i<=yB q l.length) (fun y=>(l.length-y.1).toNat) ⟨0,by omega,rfl,Ext.refl w,by omega⟩ ?_;rintro _ w1 ⟨i,hi,rfl,he1,hf⟩;dsimp only
 by_cases hlt:i<l.length
 ·refine zf (decide_eq_true (by omega)) ?_;refine kS (E:=zA) zcG zP (h.ext he1) (fun _=>rfl) rfl (by omega) (by omega) ?_;rw[Int.toNat_natCast];refine xC hg ?_;refine zb (ht w1 i he1 hlt) ?_;rintro _ w2 ⟨rfl,he2⟩;refine⟨_,rfl,?_⟩;refine zg (fun hd=>?_) (fun hd=>?_)
  ·have hfi:yB q l.length=i:=by
    rcases Nat.lt_or_ge i (yB q l.length) with h1|h1
    ·have:=zbA h1;rw[hd]at this;cases this
    ·omega
   refine⟨?_,he1.trans he2⟩;rw[hfi,if_pos hlt]
  ·rw[wrap_i64 (by omega) (by omega)];refine⟨⟨i+1,by omega,rfl,he1.trans he2,?_⟩,by omega⟩;rcases Nat.lt_or_ge i (yB q l.length) with h1|h1
   ·omega
   ·have hfi:yB q l.length=i:=by omega
    have:=zag (q:=q) (n:=l.length) (by omega);rw[hfi,hd]at this;cases this
 ·obtain rfl:i=l.length:=by omega
  refine zd (decide_eq_false (by omega)) ?_;exact⟨by rw[if_neg (by omega)],he1⟩
def yq (c:Cat) (s:ByteArray):Nat:=yB (fun j=>decide (B (c.2.getD j zP).1=B s)) c.2.length
def qu (c:Cat) (s:ByteArray):Int×Int:=if yq c s<c.2.length then ((yq c s:Int),0) else (0,211)
theorem zhM {r:Snp} {b:Nat} {s:ByteArray} {t:TypeId} (hb:Blk w b [.string s] t):Calls prog 52 #[.agg (zA.f r).toArray,.pointer (some ⟨b,0,none⟩)] w (Ret fun v w'=>v=.bool (decide (B r.1=B s))/\Ext w w'):=by
 apply zoi;unfold S52;refine zq fun r1 w1 hb1 he1 hr1 hz1=>?_;have hb1:Blk w1 r1 (zA.f r) 64:=hb1;refine zO r.1 hb1 (by rfl) (zO s (hb.ext he1) (by rfl) ?_);exact⟨by rw[jU],he1⟩
theorem vG {x y:SLC} {c:Cat} (h:yH w x y c) (s:ByteArray):
  Calls prog 23 #[.agg (zB x y).toArray,.string s] w (Ret fun v w'=>v=.tuple #[.int .i64 (qu c s).1,.int .i64 (qu c s).2]/\Ext w w'):=by
 obtain⟨⟨raws,hT⟩,hs,hcx,hcy⟩:=h;apply znV;unfold S23;refine zq fun r1 w1 hb1 he1 hr1 hz1=>?_;have hb1:Blk w1 r1 (zB x y) 30:=hb1;refine zq fun r2 w2 hb2 he2 hr2 hz2=>?_;have he:=he1.trans he2;refine zn 1 y (hb1.ext he2) (by rfl) ?_;refine zb (zcN (q:=fun j=>decide (B (c.2.getD j zP).1=B s)) (by kernel_rfl) (hs.ext he) (fun w' i he' hi=>zhM (hb2.ext he'))) ?_;rintro _ w3 ⟨rfl,he3⟩;refine⟨_,rfl,?_⟩;have hq:yB (fun j=>decide (B (c.2.getD j zP).1=B s)) c.2.length=yq c s:=rfl;rw[hq];unfold qu
 by_cases hlt:yq c s<c.2.length
 ·rw[if_pos hlt,if_pos hlt];exact zd (decide_eq_false (by omega)) ⟨rfl,he.trans he3⟩
 ·rw[if_neg hlt,if_neg hlt];exact zf (by rfl) ⟨rfl,he.trans he3⟩
theorem zhN {r:Snp}:Calls prog 51 #[.agg (zA.f r).toArray] w (Ret fun v w'=>v=.string r.1/\Ext w w'):=by
 apply zoh;unfold S51;refine zq fun r1 w1 hb1 he1 hr1 hz1=>?_;exact zO r.1 hb1 (by rfl) ⟨rfl,he1⟩
theorem zhO {x y:SLC} {c:Cat} (h:yH w x y c) (hn:c.2.length<=1000):
  Calls prog 22 #[.agg (zB x y).toArray] w (Ret fun v w'=>(∃ A k,v=.slice A c.2.length k/\Owni yW 9 w' w.heap.size A c.2.length k (c.2.map fun s=>s.1))/\Ext w w'):=by
 obtain⟨_,hs,hcx,hcy⟩:=h;have hyl:=hs.len;apply znU;unfold S22;refine zq fun r1 w1 hb1 he1 hr1 hz1=>?_;have hb1:Blk w1 r1 (zB x y) 30:=hb1;refine zn 1 y hb1 (by rfl) ?_;refine zb (R:=fun v w'=>(∃ A k,v=.slice A c.2.length k/\Owni yW 9 w' w.heap.size A c.2.length k (c.2.map fun s=>s.1))/\Ext w w') ?_ ?_
 ·apply zog;unfold S50;have hs1:=he1.size;refine zE (fun q w'=>∃ (i:Nat) (A:Option Addr) (k:Nat),i<=c.2.length/\q=((A,i,k),(i:Int),())/\Ext w w'/\Owni yW 9 w' w.heap.size A i k ((c.2.take i).map fun s=>s.1)) (fun q=>(c.2.length-q.2.1).toNat) ⟨0,none,0,by omega,rfl,he1,Owni.nil _ _ _⟩ ?_;rintro _ w2 ⟨i,A,k,hi,rfl,he2,ho⟩;dsimp only
  by_cases hlt:i<c.2.length
  ·refine zf (decide_eq_true (by omega)) ?_;refine kS (E:=zA) zcG zP (hs.ext he2) (fun _=>rfl) rfl (by omega) (by omega) ?_;rw[Int.toNat_natCast];refine yd (vs:=zA.f (c.2.getD i zP)) (by rfl) (zA.one _) (fun r5 w3 hb3 he3 hr3=>?_) (by rfl);refine zK (ls:=zj2) (zcG (c.2.getD i zP)) hb3 (by rfl) ?_;refine xC (by kernel_rfl) ?_;refine zb zhN ?_;rintro _ w4 ⟨rfl,he4⟩;refine⟨_,rfl,?_⟩;have he24:=he3.trans he4;have hw:wrap .i64 ((i:Int)+1)=((i+1:Nat):Int):=by rw[wrap_i64 (by omega) (by omega)];rfl
   rw[hw];refine xb (E:=yW) (ys:=[(c.2.getD i zP).1]) (by rfl) rfl zjq (ho.ext he24) (he2.trans he24).size (by omega) (by omega) ?_;intro A' k' w5 ho5 hg5;refine⟨⟨i+1,A',k',by omega,rfl,(he2.trans he24).grown hg5.grown ho.row,?_⟩,by omega⟩;rw[znz (d:=zP) hlt,map_append];exact ho5
  ·obtain rfl:i=c.2.length:=by omega
   refine zd (decide_eq_false (by omega)) ?_;rw[take_of_length_le (Nat.le_refl _)]at ho;exact⟨⟨A,k,rfl,ho⟩,he2⟩
 ·rintro _ w2 ⟨⟨A,k,rfl,ho⟩,he2⟩;exact⟨(A,c.2.length,k),rfl,⟨A,k,rfl,ho⟩,he2⟩
inductive zd3 (S:Spa) (n:Nat):Cat->Int->Prop
 |none:n=0->zd3 S n zaz 0
 |cat {c:Cat} {R:List Nat}:zeF S n c->Good S R->zG S.sup.pages S.now n=true->zd3 S n c 0
 |bad:n≠0->n<4294967296->(S.get n).2≠0->zd3 S n zaz (S.get n).2
theorem zlj (h:zV w b db S F) {n:Nat} {c:Cat} {e:Int} (hg:zd3 S n c e):
  Calls prog 43 #[.pointer (some ⟨b,0,none⟩),.int .u32 (n:Int)] w (Ret fun v w'=>(∃ x y,v=.tuple #[.agg (zB x y).toArray,.int .i64 e]/\z8 w' w.heap.size x y c)/\Ext w w'):=by
 cases hg with
 |none h0=>
  subst h0;refine(zf6 w (some ⟨b,0,Option.none⟩)).mono (Ret.mono ?_);rintro v w' ⟨rfl,he⟩;exact⟨⟨_,_,rfl,uf _ _⟩,he⟩
 |cat hp hG hu=>exact zhF h hG hp hu
 |bad h0 h1 h2=>
  refine(zke h h1 h0 h2).mono (Ret.mono ?_);rintro v w' ⟨rfl,he⟩;exact⟨⟨_,_,rfl,uf _ _⟩,he⟩
theorem zb1 (h:zV w b db S F) {x y:SLC} {c:Cat} (hC:yH w x y c) {s:ByteArray} (hs:B s≠[]) {f:Cat} {e:Int} (hf:yq c s<c.2.length->zd3 S (c.2.getD (yq c s) zP).2 f e):
  Calls prog 15 #[.pointer (some ⟨b,0,none⟩),.agg (zB x y).toArray,.string s] w (Ret fun v w'=>((yq c s<c.2.length/\e=0/\∃ X Y,v=.tuple #[.slice X.1 X.2.1 X.2.2,.int .i64 0]/\z8 w' w.heap.size X Y f)\/(yq c s<c.2.length/\e≠0/\v=.tuple #[.slice none 0 0,.int .i64 e])\/(¬yq c s<c.2.length/\v=.tuple #[.slice none 0 0,.int .i64 211]))/\Ext w w'):=by
 have hyl:=hC.2.1.len;apply ziF;unfold S15;refine zq fun r1 w1 hb1 he1 hr1 hz1=>?_;have hb1:Blk w1 r1 (zB x y) 30:=hb1;refine zd (by rw[zcK,decide_eq_false hs]) ?_;refine zK (ls:=yy) (yl x y) hb1 (by rfl) ?_;refine zb (vG (hC.ext he1) s) ?_;rintro _ w2 ⟨rfl,he2⟩;refine⟨((qu c s).1,(qu c s).2,()),rfl,?_⟩;have he02:=he1.trans he2
 by_cases hlt:yq c s<c.2.length
 ·have e1:qu c s=((yq c s:Int),0):=by unfold qu;rw[if_pos hlt]
  rw[e1];refine zd (by rfl) (zn 1 y (hb1.ext he2) (by rfl) ?_);dsimp only;refine zbi (E:=zA) 1 (fun e:Snp=>((e.2:Nat):Int)) zP (hC.2.1.ext he02) (fun _=>rfl) rfl (by omega) (by omega) ?_;rw[Int.toNat_natCast];refine zb (zlj (h.ext he02) (hf hlt)) ?_;rintro _ w3 ⟨⟨X,Y,rfl,hO⟩,he3⟩;refine⟨(yl X Y,e,()),rfl,?_⟩;refine yd (vs:=zB X Y) (by rfl) (ye _ _) (fun r10 w4 hb4 he4 hr4=>?_) (by rfl);have he04:=(he02.trans he3).trans he4;refine zg (fun hq=>⟨.inr (.inl ⟨hlt,bne_iff_ne.1 hq,rfl⟩),he04⟩) (fun hq=>?_);refine zO X hb4 (by rfl) ⟨.inl ⟨hlt,bne_eq_false_iff_eq.1 hq,X,Y,rfl,(hO.ext he4).lower he02.size⟩,he04⟩
 ·have e1:qu c s=(0,211):=by unfold qu;rw[if_neg hlt]
  rw[e1];exact zf (by rfl) ⟨.inr (.inr ⟨hlt,rfl⟩),he02⟩
theorem zfl (p:Option Addr) {x y:SLC} {c:Cat} (hC:yH w x y c) (hlt:zak c) {s:ByteArray} (hs:B s=[]):
  Calls prog 15 #[.pointer p,.agg (zB x y).toArray,.string s] w (Ret fun v w'=>(∃ X Y,v=.tuple #[.slice X.1 X.2.1 X.2.2,.int .i64 0]/\z8 w' w.heap.size X Y c)/\Ext w w'):=by
 apply ziF;unfold S15;refine zq fun r1 w1 hb1 he1 hr1 hz1=>?_;have hb1:Blk w1 r1 (zB x y) 30:=hb1;refine zf (by rw[zcK,decide_eq_true hs]) ?_;refine zK (ls:=yy) (yl x y) hb1 (by rfl) ?_;refine zb (vX (hC.ext he1) hlt) ?_;rintro _ w2 ⟨⟨X,Y,rfl,hO⟩,he2⟩;exact⟨yl X Y,rfl,⟨X,Y,rfl,hO.lower he1.size⟩,he1.trans he2⟩
end V
/- Contracts of the package snaps:Freeze,Leave. -/
namespace V
open Go Go.Proofs Go.RowKit Crc
variable {w w':World} {b db:Nat} {S:Spa} {F:Nat->Prop} {R H:List Nat} {M:Option (List Nat)}
theorem z8.box {B0 r:Nat} {X Y:SLC} {c:Cat} {cs:List Value} (h:z8 w B0 X Y c) (hb:Blk w r cs 30) (o:Only (fun k=>k=r) w w'):z8 w' B0 X Y c:=by
 obtain⟨⟨raws,hT⟩,hS⟩:=h;refine⟨⟨raws,hT.row.only o (fun j hj e=>Owni.neB hT.row hb (by decide) j hj e),hT.len,fun i hi=>?_⟩,hS.only o (fun j hj e=>Owni.neB hS hb (by decide) j hj e)⟩;have hE:=hT.at_ i hi;exact⟨hE.name,hE.rest,hE.cols.only o (fun j hj e=>Owni.neB hE.cols hb (by decide) j hj e)⟩
theorem yP.snap {B0 B1 n k:Nat} {X:SLC} {raws:List Raw} {es:List Ent} {A:Option Addr} {ss:List Snp} (h:yP w B0 X raws es) (hs:Owni zA 64 w B1 A n k ss) (o:Only (fun k=>orow A=some k) w w'):yP w' B0 X raws es:=
 ⟨h.row.only o (fun q hq e=>h.row.ne hs (by decide) q hq e),h.len,fun i hi=>⟨(h.at_ i hi).name,(h.at_ i hi).rest,(h.at_ i hi).cols.only o (fun q hq e=>(h.at_ i hi).cols.ne hs (by decide) q hq e)⟩⟩
def xN (c:Cat) (s:ByteArray):Nat:=yB (fun j=>!(ltB (B (c.2.getD j zP).1) (B s))) c.2.length
def jN (c:Cat) (s:ByteArray):Prop:=xN c s<c.2.length/\B (c.2.getD (xN c s) zP).1=B s
theorem zfm {r:Snp} {b:Nat} {s:ByteArray} {t:TypeId} (hb:Blk w b [.string s] t):Calls prog 34 #[.agg (zA.f r).toArray,.pointer (some ⟨b,0,none⟩)] w (Ret fun v w'=>v=.bool (!(ltB (B r.1) (B s)))/\Ext w w'):=by
 apply zn5;unfold S34;refine zq fun r1 w1 hb1 he1 hr1 hz1=>?_;have hb1:Blk w1 r1 (zA.f r) 64:=hb1;refine zO r.1 hb1 (by rfl) (zO s (hb.ext he1) (by rfl) ?_);exact⟨by rw[zdU],he1⟩
def alone (c:Cat):Cat:=(c.1,[])
structure znj (S:Spa) (c:Cat) (R H:List Nat) (M:Option (List Nat)):Prop where
 great:Great S R H M
 ok:va (alone c)=true
 used:∀ v∈zU (alone c),zG S.sup.pages S.now v=true
 cnt:∀ v∈zU (alone c),S.now.getD v 0+1000<65535
 pen:S.dev.pen.length<=500000
 r0:204<=S.r0
 most:(xI (alone c)).length<=qt S.r0
 free:S.sup.pages.length+nparts S.r0 (xI (alone c)).length+4<=S.zR
structure zc0 (S S':Spa) (c:Cat) (n:Nat) (R H:List Nat) (M:Option (List Nat)) (c1 ls:List Nat):Prop where
 cnt:∀ k,c1.getD k 0=S.now.getD k 0+(zU (alone c)).count k
 made:Mk { S with now:=c1 } S' ls
 few:ls.length<=nparts S.r0 (xI (alone c)).length+4
 out:(c.1=[]/\n=0/\Great S' R H M)\/(c.1≠[]/\Great S' (n::R) H M/\zeF S' n (alone c))
theorem zbK {S:Spa} {c1 l:List Nat} {R H:List Nat} {M:Option (List Nat)} (hu:∀ v∈l,zG S.sup.pages S.now v=true) (hc:∀ k,c1.getD k 0=S.now.getD k 0+l.count k):({ S with now:=c1 }:Spa).zR=S.zR:=by
 have hf:∀ n,({ S with now:=c1 }:Spa).yA n=S.yA n:=by
  intro n;rw[Bool.eq_iff_iff,zN,zN];show c1.getD n 0=0/\_↔_;rw[hc];constructor
  ·rintro⟨h1,h2⟩;exact⟨by omega,h2⟩
  ·rintro⟨h1,h2⟩;refine⟨?_,h2⟩;have:l.count n=0:=by
    apply List.count_eq_zero.2;intro hm;have:=(zM.1 (hu n hm)).2.2;omega
   omega
 exact Nat.le_antisymm (kX rfl fun n hn=>by rw[<- hf];exact hn) (kX rfl fun n hn=>by rw[hf];exact hn)
def zpW (w:World) (b db:Nat) (S:Spa) (F:Nat->Prop) (c:Cat) (s:ByteArray) (R H:List Nat) (M:Option (List Nat)) (v:Value) (w':World):Prop:=
 (yr (B s)≠0/\v=.tuple #[.agg (zB (none,0,0) (none,0,0)).toArray,.int .i64 (yr (B s))]/\Ext w w')\/
 (yr (B s)=0/\jN c s/\v=.tuple #[.agg (zB (none,0,0) (none,0,0)).toArray,.int .i64 6]/\Ext w w')\/
 (yr (B s)=0/\¬jN c s/\16<=c.2.length/\v=.tuple #[.agg (zB (none,0,0) (none,0,0)).toArray,.int .i64 12]/\Ext w w')\/
 (yr (B s)=0/\¬jN c s/\c.2.length<16/\∃ X Y S' n c1 ls F',v=.tuple #[.agg (zB X Y).toArray,.int .i64 0]/\zc0 S S' c n R H M c1 ls/\zV w' b db S' F'/\(∀ k,F' k->F k\/w.heap.size<=k)/\Only F w w'/\Safe F' w' (fun w=>z8 w 0 X Y (c.1,c.2.insertIdx (xN c s) (s,n))))
theorem za3 {w:World} {b n:Nat} {cs vs:List Value} {t:TypeId} {us:Array Value} {K:WP} (h:Blk w b cs t) (hl:vs.length=cs.length) (hv:∀ v∈vs,v.oneCell'=true) (hu:us.size=n)
  (hK:∀ w',Blk w' b vs t->Only (fun k=>k=b) w w'->K w'):(zc (us.size=n)<|zr (aD b) vs K) w:=by
 obtain⟨hst,hbl,hg⟩:=uo h (o:=0) (vs:=vs) (by omega) hv;refine⟨hu,hst,hK _ ?_ (Only.zY hg (fun j hj=>.inl (by injection hj with hj;exact hj.symm)))⟩;rw[List.take_zero,List.nil_append,Nat.zero_add,List.drop_eq_nil_of_le (by omega),append_nil]at hbl;exact hbl
theorem qp (h:zV w b db S F) {x y:SLC} {c:Cat} {s:ByteArray} (hC:Safe F w fun w=>yH w x y c) (hlt:zak c) (hH:yr (B s)=0->¬jN c s->c.2.length<16->znj S c R H M):
  Calls prog 13 #[.pointer (some ⟨b,0,none⟩),.agg (zB x y).toArray,.string s] w (Ret (zpW w b db S F c s R H M)):=by
 obtain⟨hl1,hl2,hl3⟩:=id hlt;have hC0:=hC.now;have hyl:=hC0.2.1.len;have hFlt:=h.lt;have one2:∀ v∈zB (none,0,0) (none,0,0),v.oneCell'=true:=ye _ _;apply znO;unfold S13;refine zq fun r1 w1 hb1 he1 hr1 hz1=>?_;have hb1:Blk w1 r1 (zB x y) 30:=hb1;refine zq fun r2 w2 hb2 he2 hr2 hz2=>?_;refine zq fun r3 w3 hb3 he3 hr3 hz3=>?_;have hb3:Blk w3 r3 (zB (none,0,0) (none,0,0)) 30:=hb3;have hb13:=(hb1.ext he2).ext he3;have hb23:=hb2.ext he3;have he03:=(he1.trans he2).trans he3;have hs03:=he03.size;have err:∀ {w4:World} {e:Int} {K:Value->WP},Ext w3 w4->(∀ w',Ext w w'->K (.tuple #[.agg (zB (none,0,0) (none,0,0)).toArray,.int .i64 e]) w')->
   (zc ((#[(.slice none 0 0),(.slice none 0 0)]:Array Value).size=2)<|
    zr (aD r3) [(.slice none 0 0),(.slice none 0 0)]<|
    zl [.slc,.slc] (aD r3) fun(u6:(SLC×SLC×Unit))=>K (.tuple #[(.agg #[(.slice u6.1.1 u6.1.2.1 u6.1.2.2),(.slice u6.2.1.1 u6.2.1.2.1 u6.2.1.2.2)]),(.int .i64 e)])) w4:=by
  intro w4 e K he hK;refine refill (vs:=zB (none,0,0) (none,0,0)) (hb3.ext he) (by rfl) one2 (by rfl) ?_;intro w5 hb5 hx5 hk5 hz5;exact zK (ls:=yy) (yl (none,0,0) (none,0,0)) hb5 (by rfl) (hK w5 (hx5 w (he03.trans he) (by omega)))
 refine zO s hb23 (by rfl) ?_;refine zb (ue w3 s) ?_;rintro _ w4 ⟨rfl,he4⟩;refine⟨_,rfl,?_⟩;refine zg (fun hq=>err he4 fun w' he=>.inl ⟨bne_iff_ne.1 hq,rfl,he⟩) (fun hq=>?_);have hn0:yr (B s)=0:=bne_eq_false_iff_eq.1 hq;have he04:=he03.trans he4;refine zn 1 y (hb13.ext he4) (by rfl) ?_;refine zb (zcN (q:=fun j=>!(ltB (B (c.2.getD j zP).1) (B s))) (by kernel_rfl) (hC0.2.1.ext he04) (fun w' i he' hi=>zfm ((hb23.ext he4).ext he'))) ?_;rintro _ w5 ⟨rfl,he5⟩;refine⟨_,rfl,?_⟩;have hpl:yB (fun j=>!(ltB (B (c.2.getD j zP).1) (B s))) c.2.length=xN c s:=rfl;rw[hpl];have hple:xN c s<=c.2.length:=zcI;have he35:=he4.trans he5;have hb15:=hb13.ext he35;have hb25:=hb23.ext he35;refine yv (fun q w'=>q=((xN c s:Int),())/\w'=w5) ?_ (fun J hJ=>?_);rotate_left
 ·by_cases hlt:xN c s<c.2.length
  ·rw[if_pos hlt];exact zd (decide_eq_false (by omega)) (hJ _ _ ⟨rfl,rfl⟩)
  ·rw[if_neg hlt];refine zf (by rfl) (zn 1 y hb15 (by rfl) (hJ _ _ ⟨?_,rfl⟩));rw[show y.2.1=xN c s by omega]
 rintro _ w5' ⟨rfl,hw5⟩;rw[hw5];dsimp only
 -- what is refused
 refine yv (fun _ w'=>Ext w5 w'/\¬jN c s/\c.2.length<16) ?_ (fun J12 hJ12=>?_);rotate_left
 ·refine yv (fun q w'=>∃ t:Bool,q=(t,())/\Ext w5 w'/\(t=true↔jN c s)) ?_ (fun J14 hJ14=>?_)
  ·rintro _ w6 ⟨t,rfl,he6,ht⟩;dsimp only;cases t with
   |true=>exact zf rfl (err (he35.trans he6) fun w' he=>.inr (.inl ⟨hn0,ht.1 rfl,rfl,he⟩))
   |false=>
    have hnt:¬jN c s:=fun hh=>by have:=ht.2 hh;cases this
    refine zd rfl (zn 1 y (hb15.ext he6) (by rfl) ?_);refine zg (fun hq=>err (he35.trans he6) fun w' he=>.inr (.inr (.inl ⟨hn0,hnt,by have:=of_decide_eq_true hq;omega,rfl,he⟩))) (fun hq=>?_);have:=of_decide_eq_false hq;exact hJ12 _ _ ⟨he6,hnt,by omega⟩
  ·refine zS fun w6 he6 hz6 hh6=>?_;refine zn 1 y (hb15.ext he6) (by rfl) ?_
   by_cases hlt:xN c s<c.2.length
   ·refine zf (decide_eq_true (by omega)) (zn 1 y (hb15.ext he6) (by rfl) ?_);refine zpu (E:=zA) (fun e:Snp=>e.1) zP (hC0.2.1.ext ((he03.trans he35).trans he6)) (fun _=>rfl) rfl (by omega) (by omega) ?_;rw[Int.toNat_natCast];refine zO s (hb25.ext he6) (by rfl) ?_;rw[jU];refine hJ14 _ _ ⟨_,rfl,he6,?_⟩;rw[decide_eq_true_iff];exact⟨fun e=>⟨hlt,e⟩,fun e=>e.2⟩
   ·refine zd (decide_eq_false (by omega)) (hJ14 _ _ ⟨false,rfl,he6,?_⟩);constructor
    ·intro e;cases e
    ·rintro⟨e,_⟩;exact absurd e hlt
 rintro _ w6 ⟨he6,hnt,hl16⟩;obtain⟨f1,f2,f3,f4,f5,f6,f7,f8⟩:=hH hn0 hnt hl16;have he36:=he35.trans he6;have he06:=he03.trans he36;have hb16:=hb15.ext he6;have hb26:=hb25.ext he6;refine zO x hb16 (by rfl) ?_;refine yd (vs:=zB x (none,0,0)) (by rfl) (ye _ _) (fun r25 w7 hb7 he7 hr7=>?_) (by rfl);have he07:=he06.trans he7;have hCa:Safe F w7 (fun w=>yH w x (none,0,0) (alone c)):=(hC.ext he07).mono fun w3 hc=>⟨hc.1,Sli.nil _ _,hc.2.2.1,Nat.le_refl _⟩;refine zK (ls:=yy) (yl x (none,0,0)) hb7 (by rfl) ?_;have hrl:(zU (alone c)).length<=16:=by
  have h1:=zeE (alone c);have h2:=(jK.1 f2).tabs;have h3:(zU (alone c)).length=(kvC (alone c)).length:=by unfold zU;rw[length_map]
  have h4:(alone c).2.length=0:=rfl;omega
 refine zb (zfk (c:=alone c) (h.ext he07) hCa (by show c.1.length<=1000;omega) (by show 0<=1000;omega) f1 f3 (fun v hv=>by have:=f4 v hv;omega)) ?_;rintro _ w8 ⟨rfl,c1,hG1,hst8,hc1⟩;refine⟨_,rfl,zd (by rfl) ?_⟩;obtain⟨F8,h8,hF8,o8⟩:=hst8;have hr1F:∀ {k:Nat},w.heap.size<=k->k<w7.heap.size->¬F8 k:=fun hk hk2 hf=>by
  rcases hF8 _ hf with e|e
  ·have:=hFlt _ e;omega
  ·omega
 have hs36:=he36.size;have hs7:=he7.size;have hb18:=(hb16.ext he7).only o8 (fun hf=>by have:=hFlt _ hf;omega);have hb28:=(hb26.ext he7).only o8 (fun hf=>by have:=hFlt _ hf;omega);have hb38:=((hb3.ext he36).ext he7).only o8 (fun hf=>by have:=hFlt _ hf;omega);have hb78:=hb7.only o8 (fun hf=>by have:=hFlt _ hf;omega);have hC8:=(hC.ext he07).step o8 hF8;have hCa8:Safe F8 w8 (fun w=>yH w x (none,0,0) (alone c)):=hCa.step o8 hF8;refine zK (ls:=yy) (yl x (none,0,0)) hb78 (by rfl) ?_;have hfn:({ S with now:=c1 }:Spa).zR=S.zR:=zbK (R:=R) (H:=H) (M:=M) f3 hc1;have hr0:({ S with now:=c1 }:Spa).r0=S.r0:=rfl;refine zb (zht (c:=alone c) h8 hCa8 f2 hG1 f5 f6 f7 (by rw[hfn];exact f8) (fun v hv=>by
  show c1.getD v 0<65535
  rw[hc1]
  have:=f4 v hv
  have:=List.count_le_length (a:=v) (l:=zU (alone c))
  omega)) ?_
 intro v9 w9 hput;obtain⟨S',n,ls,rfl,hOk,hst9⟩:∃ (S':Spa) (n:Nat) (ls:List Nat),v9=.tuple #[.int .u32 (n:Int),.int .i64 0]/\zc0 S S' c n R H M c1 ls/\yM w8 b db F8 S' w9:=by
  rcases hput with ⟨h0,rfl,hst⟩|⟨h0,S',n,ls,rfl,hP,hst⟩
  ·have hc0:c.1=[]:=congrArg Prod.fst h0;refine⟨{ S with now:=c1 },0,[],rfl,⟨hc1,Mk.refl _,Nat.zero_le _,.inl ⟨hc0,rfl,?_⟩⟩,hst⟩;rw[h0]at hG1;exact hG1
  ·refine⟨S',n,ls,rfl,⟨hc1,hP.made,hP.few,.inr ⟨fun e=>h0 (Prod.ext e rfl),hP.great,hP.pg⟩⟩,hst⟩
 clear hput;refine⟨((n:Int),0,()),rfl,zd (by rfl) ?_⟩;obtain⟨F9,h9,hF9,o9⟩:=hst9;have hs8:=o8.2.2.2.1;have hnF8:∀ {k:Nat},w.heap.size<=k->k<w7.heap.size->¬F8 k:=hr1F;have hb19:=hb18.only o9 (hnF8 (by omega) (by omega));have hb29:=hb28.only o9 (hnF8 (by omega) (by omega));have hb39:=hb38.only o9 (hnF8 (by omega) (by omega));have hC9:=hC8.step o9 hF9;have hF9lt:=h9.lt;have hFF:∀ k,F9 k->F k\/w.heap.size<=k:=fun k hk=>by
  rcases hF9 k hk with e|e
  ·rcases hF8 k e with e|e
   ·exact .inl e
   ·exact .inr (by omega)
  ·exact .inr (by omega)
 have hOnly9:Only F w w9:=Only.trans (Only.trans (Only.zz he07) o8 (fun j hj=>.inl hj)) o9 (fun k hk=>by
  rcases hF8 k hk with e|e
  ·exact .inl e
  ·exact .inr (by omega))
 have hs9:=o9.2.2.2.1;refine zK (ls:=yy) (yl x y) hb19 (by rfl) ?_;refine zb (vX hC9.now hlt) ?_;rintro _ w10 ⟨⟨X,Y,rfl,hO10⟩,he10⟩;refine⟨yl X Y,rfl,?_⟩;refine yd (vs:=zB X Y) (by rfl) (ye _ _) (fun r34 w11 hb11 he11 hr11=>?_) (by rfl);have hO11:=hO10.ext he11;have he911:=he10.trans he11;refine zn 1 Y hb11 (by rfl) (zO s (hb29.ext he911) (by rfl) ?_);refine zq fun r37 w12 hb12 he12 hr12 hz12=>?_;have hO12:=hO11.ext he12;have he912:=he911.trans he12;have hs912:=he912.size;obtain⟨⟨raws,hT12⟩,hS12⟩:=hO12;have hYl:c.2.length=Y.2.1:=hS12.len;refine zb (zf5 (x:=(s,n)) (i:=xN c s) hS12 (by omega) (by omega) (by omega) hb12 (fun e=>by have:=(hO11.2).yg _ e;omega)) ?_;rintro _ w13 ⟨A',k',rfl,ho13,o13⟩;refine⟨(A',Y.2.1+1,k'),rfl,?_⟩;have hT13:=hT12.snap hS12 o13;have hb3413:=(hb11.ext he12).only o13 (fun e=>Owni.neB hS12 (hb11.ext he12) (by decide) _ e rfl);have hrow:=hS12.row;have hb313:=(hb39.ext he912).only o13 (fun e=>Owni.neB hS12 (hb39.ext he912) (by decide) _ e rfl);show stW ((aD r34).add 1) _ _ w13;rw[zw];refine stE (o:=1) hb3413 rfl (by show 1<2;omega) ?_;intro w14 hb14 o14;have hb14:Blk w14 r34 (zB X (A',Y.2.1+1,k')) 30:=hb14;have hO13:z8 w13 w9.heap.size X (A',Y.2.1+1,k') (c.1,c.2.insertIdx (xN c s) (s,n)):=⟨⟨raws,hT13⟩,ho13⟩;have hO14:=hO13.box hb3413 o14;refine zK (ls:=yy) (yl X (A',Y.2.1+1,k')) hb14 (by rfl) ?_;have h39:r3<w9.heap.size:=hb39.lt;have hb314:=hb313.only o14 (fun e=>by have:r3=r34:=e;have:=he10.size;omega);refine za3 (vs:=zB X (A',Y.2.1+1,k')) hb314 (by rfl) (ye _ _) (by rfl) ?_;intro w15 hb15' hOx;have hlt3:r3<w14.heap.size:=hb314.lt;have hF9w:∀ {k:Nat},F9 k->k<w9.heap.size:=fun hf=>hF9lt _ hf;have o1214:Only (fun k=>w9.heap.size<=k) w9 w14:=by
  refine Only.trans (Only.trans (Only.zz he912) o13 (fun j hj=>.inl (hrow j hj))) o14 (fun j hj=>.inl ?_);have:j=r34:=hj;have:=he10.size;omega
 have hO15:=hO14.only hOx (fun k hk=>by have:k=r3:=hk;omega);have h915:Only (fun k=>w9.heap.size<=k\/k=r3) w9 w15:=Only.trans (o1214.mono fun k hk=>.inl hk) hOx (fun j hj=>.inl (.inr hj));refine zK (ls:=yy) (yl X (A',Y.2.1+1,k')) hb15' (by rfl) ?_;refine .inr (.inr (.inr ⟨hn0,hnt,hl16,X,(A',Y.2.1+1,k'),S',n,c1,ls,F9,rfl,hOk,h9.only h915 (fun k hk e=>?_),hFF,Only.trans hOnly9 h915 (fun k hk=>?_),fun w16 o16=>(hO15.only o16 (fun k hk=>hF9w hk)).lower (Nat.zero_le _)⟩))
 ·have:=hF9w hk;rcases e with e|e
  ·omega
  ·subst e;rcases hFF _ hk with e|e
   ·have:=hFlt _ e;omega
   ·rcases hF9 _ hk with e2|e2
    ·exact hnF8 (by omega) (by omega) e2
    ·omega
 ·rcases hk with e|e
  ·exact .inr (by have:=hOnly9.2.2.2.1;omega)
  ·exact .inr (by omega)
end V
/- Contracts of the package snaps:Leave. -/
namespace V
open Go Go.Proofs Go.RowKit Crc
variable {w w':World} {b db:Nat} {S:Spa} {F:Nat->Prop} {R H:List Nat} {M:Option (List Nat)}
def zqa (w:World) (b db:Nat) (S:Spa) (F:Nat->Prop) (c:Cat) (s:ByteArray) (R H:List Nat) (M:Option (List Nat)) (v:Value) (w':World):Prop:=
 (¬yq c s<c.2.length/\v=.tuple #[.agg (zB (none,0,0) (none,0,0)).toArray,.int .i64 211]/\Ext w w')\/
 (yq c s<c.2.length/\∃ X Y c' F',v=.tuple #[.agg (zB X Y).toArray,.int .i64 0]/\Great { S with now:=c' } R H M/\(∀ k,c'.getD k 0<=S.now.getD k 0)/\((c.2.getD (yq c s) zP).2≠0->Drp S.asked S.page S.now [(c.2.getD (yq c s) zP).2] c' 0)/\zV w' b db { S with now:=c' } F'/\(∀ k,F' k->F k\/w.heap.size<=k)/\Only F w w'/\Safe F' w' (fun w=>z8 w 0 X Y (c.1,c.2.eraseIdx (yq c s))))
theorem zds (h:zV w b db S F) {x y:SLC} {c:Cat} {s:ByteArray} (hC:Safe F w fun w=>yH w x y c) (hlt:zak c) (hH:yq c s<c.2.length->((c.2.getD (yq c s) zP).2=0/\Great S R H M)\/((c.2.getD (yq c s) zP).2≠0/\Great S ((c.2.getD (yq c s) zP).2::R) H M)):
  Calls prog 19 #[.pointer (some ⟨b,0,none⟩),.agg (zB x y).toArray,.string s] w (Ret (zqa w b db S F c s R H M)):=by
 obtain⟨hl1,hl2,hl3⟩:=id hlt;have hC0:=hC.now;have hyl:=hC0.2.1.len;have hFlt:=h.lt;apply znS;unfold S19;refine zq fun r1 w1 hb1 he1 hr1 hz1=>?_;have hb1:Blk w1 r1 (zB x y) 30:=hb1;refine zq fun r2 w2 hb2 he2 hr2 hz2=>?_;have hb2:Blk w2 r2 (zB (none,0,0) (none,0,0)) 30:=hb2;have hb12:=hb1.ext he2;have he02:=he1.trans he2;have hs02:=he02.size;refine zK (ls:=yy) (yl x y) hb12 (by rfl) ?_;refine zb (vG (hC0.ext he02) s) ?_;rintro _ w3 ⟨rfl,he3⟩;refine⟨((qu c s).1,(qu c s).2,()),rfl,?_⟩;have he03:=he02.trans he3
 by_cases hf:yq c s<c.2.length
 rotate_left
 ·have e1:qu c s=(0,211):=by unfold qu;rw[if_neg hf]
  rw[e1];refine zf (by rfl) ?_;refine za3 (vs:=zB (none,0,0) (none,0,0)) (hb2.ext he3) (by rfl) (ye _ _) (by rfl) ?_;intro w4 hb4 o4;exact zK (ls:=yy) (yl (none,0,0) (none,0,0)) hb4 (by rfl) (.inl ⟨hf,rfl,Only.ext he03 o4 (fun j hj=>by have:j=r2:=hj;omega)⟩)
 have e1:qu c s=((yq c s:Int),0):=by unfold qu;rw[if_pos hf]
 rw[e1];refine zd (by rfl) ?_;dsimp only;have hb13:=hb12.ext he3;have hb23:=hb2.ext he3;have hH:=hH hf;have hmem:c.2.getD (yq c s) zP∈c.2:=by rw[getD_eq_getElem?_getD,List.getElem?_eq_getElem hf];exact getElem_mem _
 generalize hn:(c.2.getD (yq c s) zP).2=n at *;have hs3:=he3.size;refine yv (fun _ w'=>∃ c' F',Great { S with now:=c' } R H M/\(∀ k,c'.getD k 0<=S.now.getD k 0)/\(n≠0->Drp S.asked S.page S.now [n] c' 0)/\zV w' b db { S with now:=c' } F'/\(∀ k,F' k->F k\/w3.heap.size<=k)/\Only F w3 w') ?_ (fun J hJ=>?_);rotate_left
 ·refine zn 1 y hb13 (by rfl) ?_;refine zbi (E:=zA) 1 (fun e:Snp=>((e.2:Nat):Int)) zP (hC0.2.1.ext he03) (fun _=>rfl) rfl (by omega) (by omega) ?_;rw[Int.toNat_natCast,hn];rcases hH with ⟨h0,hG⟩|⟨h0,hG⟩
  ·refine zd (bne_eq_false_iff_eq.2 (by omega)) (hJ _ _ ⟨S.now,F,hG,fun k=>Nat.le_refl _,fun e=>absurd h0 e,h.ext he03,fun k hk=>.inl hk,Only.refl F _⟩)
  ·refine zf (bne_iff_ne.2 (by omega)) ?_;refine zb (ziT (h.ext he03) hG) ?_;rintro _ w4 ⟨rfl,c',hG',⟨F',k1,k2,k3⟩,hD,hle⟩;exact⟨_,rfl,zd (by rfl) (hJ _ _ ⟨c',F',hG',hle,fun _=>hD,k1,k2,k3⟩)⟩
 rintro _ w4 ⟨c',F',hG',hle,hD,h4,hF4,o4⟩;have hF4w:∀ k,F' k->F k\/w.heap.size<=k:=fun k hk=>by
  rcases hF4 k hk with e|e
  ·exact .inl e
  ·exact .inr (by omega)
 have nF:∀ {k:Nat},w.heap.size<=k->¬F k:=fun hk hf=>by have:=hFlt _ hf;omega
 have hO04:Only F w w4:=Only.trans (Only.zz he03) o4 (fun j hj=>.inl hj);have hC4:=(hC.ext he03).step o4 hF4;have hs4:=o4.2.2.2.1;have hb14:=hb13.only o4 (nF (by omega));have hb24:=hb23.only o4 (nF (by omega));have hF4lt:=h4.lt;refine zK (ls:=yy) (yl x y) hb14 (by rfl) ?_;refine zb (vX hC4.now hlt) ?_;rintro _ w5 ⟨⟨X,Y,rfl,hO5⟩,he5⟩;refine⟨yl X Y,rfl,?_⟩;refine yd (vs:=zB X Y) (by rfl) (ye _ _) (fun r15 w6 hb6 he6 hr6=>?_) (by rfl);have hO6:=hO5.ext he6;have he46:=he5.trans he6;have hs46:=he46.size;refine zn 1 Y hb6 (by rfl) ?_;obtain⟨⟨raws,hT6⟩,hS6⟩:=hO6;have hYl:c.2.length=Y.2.1:=hS6.len;have hw1:wrap .i64 (((yq c s:Nat):Int)+1)=((yq c s+1:Nat):Int):=by rw[wrap_i64 (by omega) (by omega)];rfl
 rw[hw1];refine zb (zf4 (i:=yq c s) hS6 (by omega) (by omega)) ?_;rintro _ w7 ⟨rfl,ho7,o7⟩;refine⟨(Y.1,Y.2.1-1,Y.2.2),rfl,?_⟩;have hT7:=hT6.snap hS6 o7;have hrow:=hS6.row;have hb67:=hb6.only o7 (fun e=>Owni.neB hS6 hb6 (by decide) _ e rfl);have hb26:=hb24.ext he46;have hb27:=hb26.only o7 (fun e=>Owni.neB hS6 hb26 (by decide) _ e rfl);show stW ((aD r15).add 1) _ _ w7;rw[zw];refine stE (o:=1) hb67 rfl (by show 1<2;omega) ?_;intro w8 hb8 o8;have hb8:Blk w8 r15 (zB X (Y.1,Y.2.1-1,Y.2.2)) 30:=hb8;have hO7:z8 w7 w4.heap.size X (Y.1,Y.2.1-1,Y.2.2) (c.1,c.2.eraseIdx (yq c s)):=⟨⟨raws,hT7⟩,ho7⟩;have hO8:=hO7.box hb67 o8;refine zK (ls:=yy) (yl X (Y.1,Y.2.1-1,Y.2.2)) hb8 (by rfl) ?_;have h24:r2<w4.heap.size:=hb24.lt;have hb28:=hb27.only o8 (fun e=>by have:r2=r15:=e;have:=he5.size;omega);refine za3 (vs:=zB X (Y.1,Y.2.1-1,Y.2.2)) hb28 (by rfl) (ye _ _) (by rfl) ?_;intro w9 hb9 o9;have o48:Only (fun k=>w4.heap.size<=k) w4 w8:=by
  refine Only.trans (Only.trans (Only.zz he46) o7 (fun j hj=>.inl (hrow j hj))) o8 (fun j hj=>.inl ?_);have:j=r15:=hj;have:=he5.size;omega
 have hO9:=hO8.only o9 (fun k hk=>by have:k=r2:=hk;omega);have h49:Only (fun k=>w4.heap.size<=k\/k=r2) w4 w9:=Only.trans (o48.mono fun k hk=>.inl hk) o9 (fun j hj=>.inl (.inr hj));refine zK (ls:=yy) (yl X (Y.1,Y.2.1-1,Y.2.2)) hb9 (by rfl) ?_;refine .inr ⟨hf,X,(Y.1,Y.2.1-1,Y.2.2),c',F',rfl,hG',hle,by rw[hn];exact hD,h4.only h49 (fun k hk e=>?_),hF4w,Only.trans hO04 h49 (fun k hk=>?_),fun w16 o16=>(hO9.only o16 (fun k hk=>hF4lt k hk)).lower (Nat.zero_le _)⟩
 ·have:=hF4lt k hk;rcases e with e|e
  ·omega
  ·subst e;rcases hF4 _ hk with e|e
   ·exact nF (by omega) e
   ·have:=hb23.lt;omega
 ·rcases hk with e|e
  ·exact .inr (by have:=hO04.2.2.2.1;omega)
  ·exact .inr (by omega)
end V
/- Cells,and whether they may be:contracts of value.Check and of the document's answer. -/
namespace V
open Go Go.Proofs Go.RowKit
end V
/- Contracts of rows,of what is taken and picked (schema),and of the document's answer. -/
set_option maxRecDepth 100000
namespace V
open Go Go.Proofs Go.RowKit
end V
/- Contracts of the package shadowbookref24:Check. -/
namespace V
open Go Go.Proofs Go.RowKit Crc
variable {w w':World}
theorem zlk {α:Type} {l:List α} {d:α} {i:Nat} (h:i<l.length):l.getD i d∈l:=by rw[getD_eq_getElem?_getD,List.getElem?_eq_getElem h];exact getElem_mem _
end V
/- Law 26:the space that all begin with;catalogs of names. -/
namespace V
open Go Go.Proofs Go.RowKit Crc
variable {w0 w w':World} {b db:Nat} {S:Spa} {F:Nat->Prop} {R H:List Nat} {M:Option (List Nat)}
theorem zdt (w:World):Calls prog 8 #[] w (Ret fun v w'=>∃ db b,v=.pointer (some ⟨b,0,none⟩)/\∃ F,St w w' b db S0 F):=by
 apply zpx;unfold S8;refine zb (zjr w 256 256) ?_;rintro _ w2 (⟨_,db,rfl,hd⟩|⟨hg,_⟩)
 ·refine⟨(some ⟨db,0,none⟩,0,()),rfl,?_⟩;refine zb (zlh hd) ?_;rintro _ w3 ⟨b,rfl,F,h3⟩;exact⟨(some ⟨b,0,none⟩,0,()),rfl,zd (by rfl) ⟨db,b,rfl,F,h3⟩⟩
 ·rw[zfi]at hg;cases hg
def vQ (es:List Ent):List Nat:=es.filterMap fun e=>if e.2.2.1=0 then none else some e.2.2.1
theorem zdu (es:List Ent) (e:Ent):vQ (es++[e])=vQ es++(if e.2.2.1=0 then [] else [e.2.2.1]):=by
 unfold vQ;rw[List.filterMap_append];congr 1;split
 ·rename_i h;simp[h]
 ·rename_i h;simp[h]
theorem zfP (A:Option Addr) (es:List Ent):∀ i,i<=es.length->(spT A es i).map (fun p=>p.2.2)=vQ (es.take i)
 |0,_=>rfl
 |i+1,h=>by
  rw[jg,map_append,zfP A es i (by omega),znz (d:=yu) (by omega),zdu];congr 1;split<;>rfl
theorem zaI (c:Cat):zU (alone c)=vQ c.1:=by
 rw[<- zdr (none,0,0) (none,0,0)];unfold zW alone;rw[map_append,zfP none c.1 _ (Nat.le_refl _),take_of_length_le (Nat.le_refl _)];simp[spS]
variable {r1 r2 B0 rows i:Nat} {xs:List ByteArray} {x:SLC} {raws:List Raw} {es:List Ent}
end V
/- Law 26:catalogs of names,made. -/
namespace V
open Go Go.Proofs Go.RowKit Crc
variable {w0 w w':World} {b db:Nat} {S:Spa} {F:Nat->Prop}
variable {r1 r2 B0 rows i:Nat} {xs:List ByteArray} {x:SLC} {raws:List Raw} {es:List Ent}
end V
/- Law 26:plain part;lives. -/
namespace V
open Go Go.Proofs Go.RowKit Crc
variable {w0 w w':World} {b db:Nat} {S S':Spa} {F:Nat->Prop} {R H:List Nat} {M:Option (List Nat)} {es:List Ent} {xs:List ByteArray} {rows:Nat}
theorem zeI {len:Nat} (h:len<=11000):nparts 238 len<=47:=by
 rcases Nat.lt_or_ge 47 (nparts 238 len) with h1|h1
 ·have:=(zaf (r:=238) (len:=len) (i:=47) (by omega)).1 h1;omega
 ·exact h1
def nL (n:Nat):List Nat:=if n=0 then [] else [n]
end V
/- Law 26:lives;SnapsStay. -/
namespace V
open Go Go.Proofs Go.RowKit Crc
variable {w0 w w':World} {b db:Nat} {S S':Spa} {F:Nat->Prop} {R H:List Nat} {M:Option (List Nat)} {es:List Ent} {xs:List ByteArray} {rows:Nat}
def strt:ByteArray:=ByteArray.mk #[116]
def strs:ByteArray:=ByteArray.mk #[115]
def yD (k:Nat):Ent:=(strt,zge,k,1,1)
theorem zll {k:Nat} (hk:k≠0):va ([yD k],[])=true:=by
 refine jK.2 ⟨by show 1<=16;omega,by show 0<=16;omega,fun e he=>?_,(fun s hs=>by cases hs),rfl,rfl⟩;rw[mem_singleton.1 he];exact⟨by kernel_rfl,zpn,⟨by show(0:Int)<=1;omega,by show(1:Int)<=4096;omega⟩,⟨fun e=>absurd e hk,fun e=>by cases e⟩,by show 1<_;omega⟩
theorem zdv (h:zV w b db S0 F):
  Calls prog 24 #[.pointer (some ⟨b,0,none⟩)] w (Ret fun v w'=>∃ x y S' k F',v=.agg (zB x y).toArray/\jv S0 S' ((7:UInt8),[],strt) k/\Great S' [k] [] none/\zV w' b db S' F'/\(∀ k,F' k->F k\/w.heap.size<=k)/\Only F w w'/\Safe F' w' (fun w=>z8 w 0 x y ([yD k],[]))):=by
 have hFlt:=h.lt;apply znW;unfold S24;refine zq fun r1 w1 hb1 he1 hr1 hz1=>?_;have hroom:S0.room 0=(238:Nat):=by rw[(xO vt.good.dims).1,zkc]
 refine zb (zkS (p:=((7:UInt8),[],strt)) (A:=none) (n:=0) (c:=0) (h.ext he1) (by exact vt) (by rw[zhL];simp) (Sli.nil _ _) (fun a ha=>by cases ha) (by show 3<=7;omega) (by rw[hroom];show(0:Int)<=_;decide) (by show 1<=1000000000;omega)) ?_;rintro _ w2 ⟨S',k,e,rfl,hR,F',g1,g2,g3⟩;rcases hR with ⟨_,_,_,hbig⟩|⟨_,_,_,hfull⟩|⟨rfl,hP,hG,_,_⟩
 ·have:((238:Nat):Int)<((strt.size:Nat):Int):=by rw[<- hroom];exact hbig
  have:strt.size=1:=by kernel_rfl
  omega
 ·rw[zfj,zbJ]at hfull;omega
 refine⟨((k:Int),0,()),rfl,?_⟩;have hs1:=he1.size;have hlt':=g1.lt;have hb12:=hb1.only g3 (fun hf=>by have:=hFlt _ hf;omega);refine zb (zng w2) ?_;rintro _ w3 ⟨n,rfl,ho,he3⟩;refine⟨(some ⟨n,0,none⟩,2,2),rfl,?_⟩;refine zq fun r4 w4 hb4 he4 hr4 hz4=>?_;have he24:=he3.trans he4;refine za3 (vs:=zB (some ⟨r4,0,none⟩,1,1) (none,0,0)) (hb12.ext he24) (by rfl) (ye _ _) (by rfl) ?_;intro w5 hb5 o5;have hs2:=g3.2.2.2.1;have hs3:=he3.size;have hb45:Blk w5 r4 (xg.flat [(strt,(some ⟨n,0,none⟩,2,2),k,1,1)]) 42:=by
  have:Blk w4 r4 (xg.flat [(strt,(some ⟨n,0,none⟩,2,2),k,1,1)]) 42:=hb4;exact this.only o5 (fun e=>by have:r4=r1:=e;have:=hb1.lt;omega)
 have hor:=ho.row;have ho5:=(ho.ext he4).only o5 (fun j hj e=>by have:=hor j hj;have:j=r1:=e;have:=hb1.lt;omega);have hO:z8 w5 w2.heap.size (some ⟨r4,0,none⟩,1,1) (none,0,0) ([yD k],[]):=by
  refine⟨⟨[(strt,(some ⟨n,0,none⟩,2,2),k,1,1)],vC hb45 rfl (by show 1<=9223372036854775807;omega) (by omega),rfl,fun i hi=>?_⟩,Owni.nil _ _ _⟩;have hi:i<1:=hi;obtain rfl:i=0:=by omega
  exact⟨rfl,rfl,ho5⟩
 have o25:Only (fun k=>k=r1) w2 w5:=Only.trans (Only.zz he24) o5 (fun j hj=>.inl hj);have hF1:∀ k,F' k->k≠r1:=fun j hj e=>by
  rcases g2 j hj with e1|e1
  ·have:=hFlt _ e1;omega
  ·have:=hb1.lt;omega
 refine zK (ls:=yy) (yl (some ⟨r4,0,none⟩,1,1) (none,0,0)) hb5 (by rfl) ⟨_,_,S',k,F',rfl,hP,hG,g1.only o25 (fun j hj e=>hF1 j hj e),fun j hj=>?_,?_,fun w6 o6=>(hO.only o6 (fun j hj=>hlt' j hj)).lower (Nat.zero_le _)⟩
 ·rcases g2 j hj with e|e
  ·exact .inl e
  ·exact .inr (by omega)
 ·refine Only.trans (Only.trans (Only.zz he1) g3 (fun j hj=>.inl hj)) o25 (fun j hj=>?_);have:j=r1:=hj;exact .inr (by omega)
theorem zc1 {k:Nat} (hP:jv S0 S ((7:UInt8),[],strt) k) (hG:Great S [k] [] none):znj S ([yD k],[]) [k] [] none/\vQ [yD k]=[k]:=by
 have h2:=hP.two;have hk0:k≠0:=by omega
 have hrt:vQ [yD k]=[k]:=by
  show vQ ([]++[yD k])=_;rw[zdu,if_neg (show ¬(yD k).2.2.1=0 from hk0)];rfl
 have hr:zU (alone ([yD k],[]))=[k]:=(zaI ([yD k],[])).trans hrt;have hl:S0.now.length=S0.N:=vt.good.ok.now;have hok:=zll hk0;have hlen:=(jK.1 hok).len;have hnp:=zeI hlen;have hmk:=hP.mk_ hl;have hf:=hmk.free;rw[zfj]at hf;have hf1:([k]:List Nat).length=1:=rfl;have hr0:S.r0=238:=by rw[hmk.r0,zkc]
 have hp:=hP.pen;rw[zhL]at hp;have hp0:([]:List (Int×ByteArray)).length=0:=rfl;refine⟨⟨hG,hok,fun v hv=>?_,fun v hv=>?_,by omega,by rw[hr0];omega,by rw[hr0,znB];show(xI ([yD k],[])).length<=_;omega,?_⟩,hrt⟩
 ·rw[hr]at hv;exact hG.good.well.root v hv
 ·rw[hr,mem_singleton]at hv;subst hv;rw[hP.now,yn,if_pos ⟨rfl,by rw[hl];exact hP.lt⟩];omega
 ·rw[hr0,hP.sup,zbJ];show 3+nparts 238 (xI ([yD k],[])).length+4<=_;omega
theorem zlm (es:List Ent) (s:ByteArray):xN (es,[]) s=0:=Nat.le_zero.1 zcI
theorem zhP (es:List Ent) (s:ByteArray):¬jN (es,[]) s:=by
 rintro⟨h,_⟩;rw[zlm]at h;cases h
theorem znk (es:List Ent) (s:ByteArray) (n:Nat):(([]:List Snp).insertIdx (xN (es,[]) s) (s,n))=[(s,n)]:=by rw[zlm];rfl
theorem ziv (w:World):Calls prog 7 #[] w (Ret fun v w'=>v=.bool true/\Ext w w'):=by
 apply zpw;unfold S7;refine zb (zdt w) ?_;rintro _ w1 ⟨db,b,rfl,F,h1⟩;refine⟨some ⟨b,0,none⟩,rfl,zd (by rfl) ?_⟩;refine zb (zdv h1.sp) ?_;rintro _ w2 ⟨x,y,S2,k,F2,rfl,hP,hG,h2,hF2,o2,hC⟩;refine⟨yl x y,rfl,?_⟩;obtain⟨hfz,hrt⟩:=zc1 hP hG;have hnm:yr (B (ByteArray.mk #[115]))=0:=by kernel_rfl
 refine zb (qp (c:=([yD k],[])) (R:=[k]) (H:=[]) (M:=none) h2 (hC.mono fun _ h=>h.cat) ⟨by show 1<=1000;omega,by show 0<=1000;omega,fun e he=>by rw[mem_singleton.1 he];show 2<=1000;omega⟩ (fun _ _ _=>hfz)) ?_;rintro _ w3 (⟨hne,_⟩|⟨_,hth,_⟩|⟨_,_,h16,_⟩|⟨_,_,_,X,Y,S3,n,c1,ls,F3,rfl,hOk,h3,hF3,o3,hC3⟩)
 ·exact absurd hnm hne
 ·exact absurd hth (zhP _ _)
 ·cases h16
 refine⟨(yl X Y,0,()),rfl,?_⟩;rw[znk]at hC3;have hC3:=hC3.now;have hx3:Ext w w3:=by
  refine Only.ext (Only.ext h1.ext o2 h1.low) o3 (fun j hj=>?_);rcases hF2 j hj with e|e
  ·exact h1.low j e
  ·have:=h1.ext.size;omega
 refine yd (vs:=zB X Y) (by rfl) (ye _ _) (fun r4 w4 hb4 he4 hr4=>?_) (by rfl);refine zf (by rfl) ?_;refine zK (ls:=yy) (yl X Y) hb4 (by rfl) ?_;refine zb (zhO (hC3.ext he4).cat (by show 1<=1000;omega)) ?_;rintro _ w5 ⟨⟨A,kk,rfl,ho⟩,he5⟩;refine⟨(A,1,kk),rfl,?_⟩;refine zq fun r7 w6 hb6 he6 hr6 hz6=>?_;have hs6:Sli yW w6 (some ⟨r7,0,none⟩) 1 [strs]:=Sli.xA (E:=yW) (xs:=[strs]) (by exact hb6) rfl (by omega);refine zb (zfY (ho.ext he6).sl hs6) ?_;rintro _ w7 ⟨rfl,he7⟩;exact⟨_,rfl,rfl,((hx3.trans he4).trans he5).trans (he6.trans he7)⟩
theorem yH.root {x y:SLC} {c:Cat} {i:Nat} {K:Int->WP} (h:yH w x y c) (hi:i<c.1.length) (hK:K ((c.1.getD i yu).2.2.1:Int) w):
  (zc (0<=(i:Int)/\(i:Int)<((x.2.1:Nat):Int))<|zk x.1 fun(p15:Addr)=>ldW (.int .u32) ((p15.add (Int.toNat (i:Int)*5)).add 2) K) w:=by
 obtain⟨⟨raws,hT⟩,_⟩:=h;have hl:=hT.len;have hxl:=hT.sl.len;refine zbi (E:=xg) 2 (fun e:Raw=>((e.2.2.1:Nat):Int)) xf hT.sl (fun _=>rfl) rfl (by omega) (by omega) ?_;rw[Int.toNat_natCast,show(raws.getD i xf).2.2.1=(c.1.getD i yu).2.2.1 by rw[(hT.at_ i hi).rest]];exact hK
theorem yH.xlen {x y:SLC} {c:Cat} (h:yH w x y c):c.1.length=x.2.1/\c.2.length=y.2.1:=by
 obtain⟨⟨raws,hT⟩,hs,_⟩:=h;exact⟨by rw[<- hT.len];exact hT.sl.len,hs.len⟩
end V
/- Law 26:SnapsStay. -/
namespace V
open Go Go.Proofs Go.RowKit Crc
variable {w0 w w':World} {b db:Nat} {S S':Spa} {F:Nat->Prop} {es:List Ent} {xs:List ByteArray} {rows:Nat}
theorem St.box {r:Nat} {cs:List Value} {t:TypeId} (h:zV w b db S F) (hb:Blk w' r cs t) (hr:w.heap.size<=r):Safe F w' (fun w=>Blk w r cs t):=fun w2 o=>hb.only o (fun hf=>by have:=h.lt _ hf;omega)
theorem Safe.and {P Q:World->Prop} (h:Safe F w P) (k:Safe F w Q):Safe F w (fun w=>P w/\Q w):=fun w' o=>⟨h w' o,k w' o⟩
theorem Safe.row {α:Type} {E:Enc α} {e:TypeId} {B n c:Nat} {A:Option Addr} {l:List α} (h:Safe F w (fun w=>Owni E e w B A n c l)):∀ k,orow A=some k->¬F k:=by
 intro k hk hf;have hlt:=h.now.yg k hk;have h1:=h (yC w k (.deferred none)) (Only.yC hf);rcases h1.2 with ⟨hv,_⟩|⟨g,cap,cur,hv,_,hg,_⟩
 ·injection hv with hv
  rw[hv]at hk;cases hk
 ·injection hv with hv
  rw[hv]at hk;have e1:g=k:=Option.some.inj hk;subst e1;unfold yC at hg;simp[hlt]at hg
theorem zpo {s:ByteArray} (h:yr (B s)=0):B s≠[]:=by
 intro e;have:=qi h;rw[e]at this;simp at this
theorem znl (es:List Ent) (s:ByteArray) (n:Nat):yq (es,[(s,n)]) s=0:=by
 unfold yq yB;show((List.range 1).findIdx _)=0;simp[List.range,List.range.loop,List.findIdx_cons]
end V
/- Law 26:SnapsNone. -/
namespace V
open Go Go.Proofs Go.RowKit Crc
variable {w0 w w':World} {b db:Nat} {S S':Spa} {F:Nat->Prop} {R:List Nat} {es:List Ent} {xs:List ByteArray} {rows:Nat}
theorem ziw (hg:Good S R) (hR:∀ r∈R,yh S.page r=[]) {n:Nat} (hn:zG S.sup.pages S.now n=true):S.now.getD n 0=R.count n:=by
 obtain⟨rk,hr⟩:=hg.well.rank;have parent:∀ m,zG S.sup.pages S.now m=true->m∉R->∃ k,k<S.N/\zG S.sup.pages S.now k=true/\m∈yh S.page k:=by
  intro m hm hmR;obtain⟨a1,a2,a3⟩:=zM.1 hm;have hs:=hg.well.sum m a1 a2;rw[List.count_eq_zero.2 hmR,Nat.zero_add]at hs;apply Classical.byContradiction;intro hno;have:jr S.N S.sup.pages S.page S.now m=0:=by
   unfold jr;rw[zad (g:=fun _=>0) (fun k hk=>by
    unfold xx
    split
    ·rename_i huk
     exact List.count_eq_zero.2 (fun hmem=>hno ⟨k,hk,huk,hmem⟩)
    ·rfl)]
   exact vN S.N
  omega
 have nokids:∀ m,m<S.N->zG S.sup.pages S.now m=true->yh S.page m=[]:=by
  intro m hmN hm;apply Classical.byContradiction;intro hk;obtain⟨q,q1,q2,q3⟩:=zbI (U:=fun k=>zG S.sup.pages S.now k&&!(yh S.page k).isEmpty) rk S.N ⟨m,hmN,by rw[hm,Bool.true_and,Bool.not_eq_true'];simpa using hk⟩;rw[Bool.and_eq_true,Bool.not_eq_true']at q2;have hqk:yh S.page q≠[]:=by simpa using q2.2
  obtain⟨p,p1,p2,p3⟩:=parent q q2.1 (fun hh=>hqk (hR q hh));have h1:=hr p p2 q p3;have h2:=q3 p p1 (by rw[p2,Bool.true_and,Bool.not_eq_true'];cases hz:yh S.page p with
   |nil=>rw[hz]at p3;cases p3
   |cons _ _=>rfl)
  omega
 obtain⟨a1,a2,a3⟩:=zM.1 hn;have hs:=hg.well.sum n a1 a2;have:jr S.N S.sup.pages S.page S.now n=0:=by
  unfold jr;rw[zad (g:=fun _=>0) (fun k hk=>by
   unfold xx
   split
   ·rename_i huk
    rw[nokids k hk huk];rfl
   ·rfl)]
  exact vN S.N
 omega
theorem zcO (es:List Ent) (s:ByteArray) (n:Nat):jN (es,[(s,n)]) s:=by
 have h0:xN (es,[(s,n)]) s=0:=by
  unfold xN yB;show((List.range 1).findIdx _)=0;simp[List.range,List.range.loop,List.findIdx_cons,zi1]
 refine⟨by rw[h0];show 0<1;omega,?_⟩;rw[h0];rfl
theorem zpp (es:List Ent) {s t:ByteArray} (n:Nat) (h:B s≠B t):¬yq (es,[(s,n)]) t<1:=by
 unfold yq;intro hlt;have hq:yB (fun j=>decide (B (((es,[(s,n)]):Cat).2.getD j zP).1=B t)) 1<1:=hlt;have h2:=zag hq;have h3:=of_decide_eq_true h2;have h0:yB (fun j=>decide (B (((es,[(s,n)]):Cat).2.getD j zP).1=B t)) 1=0:=by omega
 rw[h0]at h3;exact h h3
end V
/- Law 26:SnapsApart. -/
namespace V
open Go Go.Proofs Go.RowKit Crc
variable {w0 w w':World} {b db:Nat} {S S':Spa} {F:Nat->Prop} {R:List Nat} {es:List Ent} {xs:List ByteArray} {rows:Nat}
theorem zfn {n:Nat} {ss:List Snp} {c1 ls:List Nat} (hg:Good S R) (hF:zc0 S S' (es,ss) n R [] none c1 ls):Great S' (nL n++R) [] none/\(n≠0->zeF S' n (es,[]))/\(n=0->es=[])/\(∀ r,zG S.sup.pages S.now r=true->S'.page r=S.page r):=by
 have hpg:∀ r,zG S.sup.pages S.now r=true->S'.page r=S.page r:=by
  intro r hu;have hnl:r∉ls:=fun hk=>by
   have h0:=(zN.1 (hF.made.mem hk).2.2).1;have h0:c1.getD r 0=0:=h0;have:=hF.cnt r;have:=(zM.1 hu).2.2;omega
  exact hF.made.other r (hg.well.lt hu) hnl
 rcases hF.out with ⟨e1,e2,e3⟩|⟨e1,e2,e3⟩
 ·refine⟨?_,fun h0=>absurd e2 h0,fun _=>e1,hpg⟩;unfold nL;rw[if_pos e2];exact e3
 ·have hn2:=(zM.1 (e2.good.well.root n mem_cons_self)).1;refine⟨?_,fun _=>e3,fun h0=>by omega,hpg⟩;unfold nL;rw[if_neg (by omega)];exact e2
end V
/- Law 26:SnapsNames,what its rounds keep:plain. -/
namespace V
open Go Go.Proofs Go.RowKit Crc
variable {w0 w w':World} {b db:Nat} {S S':Spa} {F:Nat->Prop}
structure zbL (k:Nat) (S:Spa) (i:Nat):Prop where
 great:Great S [k] [] none
 leaf:yh S.page k=[]
 free:199<=S.zR+5*i
 pen:S.dev.pen.length<=60+5*i
 r0:S.r0=238
 pages:S.sup.pages.length=3
theorem zfQ:(xI (alone (([],[]):Cat))).length=2:=rfl
theorem np2:nparts 238 2=1:=by decide
theorem zfo (ss:List Snp):zU (alone (([],ss):Cat))=[]:=zaI ([],ss)
theorem zbL.one {k i:Nat} (h:zbL k S i):S.now.getD k 0=1:=by
 rw[ziw h.great.good (fun r hr=>by rw[mem_singleton.1 hr];exact h.leaf) (h.great.good.well.root k (mem_singleton.2 rfl))];simp
theorem zbL.frz {k i:Nat} (h:zbL k S i) (hi:i<=16) (ss:List Snp):znj S ([],ss) [k] [] none:=by
 have h1:=h.free;have h2:=h.pen;have hl:(xI (alone (([],ss):Cat))).length=2:=zfQ;refine⟨h.great,by rfl,fun v hv=>?_,fun v hv=>?_,by omega,by rw[h.r0];omega,by rw[h.r0,znB,hl];omega,by rw[h.r0,hl,np2,h.pages];omega⟩
 ·rw[zfo]at hv;cases hv
 ·rw[zfo]at hv;cases hv
theorem zbL.step {k i n:Nat} {ss:List Snp} {c1 ls:List Nat} (h:zbL k S i) (hF:zc0 S S' ([],ss) n [k] [] none c1 ls):n=0/\zbL k S' (i+1):=by
 obtain⟨g1,g2,g3,g4⟩:=zfn h.great.good hF;have hn:n=0:=by
  rcases hF.out with ⟨_,e,_⟩|⟨e,_⟩
  ·exact e
  ·exact absurd rfl e
 have hl:(xI (alone (([],ss):Cat))).length=2:=zfQ;have hu:=h.great.good.well.root k (mem_singleton.2 rfl);have hfew:=hF.few;rw[h.r0,hl,np2]at hfew;have hfr:=hF.made.free;have hmore:({ S with now:=c1 }:Spa).zR=S.zR:=zbK (R:=[k]) (H:=[]) (M:=none) (l:=zU (alone (([],ss):Cat))) (fun v hv=>by rw[zfo]at hv;cases hv) hF.cnt;have hpen:=hF.made.pen;have hpen:S'.dev.pen.length=S.dev.pen.length+ls.length:=hpen;have h1:=h.free;have h2:=h.pen;subst hn;refine⟨rfl,⟨by simpa [nL] using g1,?_,by omega,by omega,?_,?_⟩⟩
 ·have:=h.leaf;unfold yh at this ⊢;rw[g4 k hu];exact this
 ·have:S'.r0=({ S with now:=c1 }:Spa).r0:=hF.made.r0;rw[this];exact h.r0
 ·have:S'.sup=S.sup:=hF.made.sup;rw[this];exact h.pages
def NmI (i:Nat) (l:List UInt8):Prop:=l=[101]\/∃ j,1<=j/\j<=i/\l=yX [97] j
theorem NmI.up {i:Nat} {l:List UInt8} (h:NmI i l):NmI (i+1) l:=by
 rcases h with h|⟨j,h1,h2,h3⟩
 ·exact .inl h
 ·exact .inr ⟨j,h1,by omega,h3⟩
theorem zal (j:Nat):(yX [97] j).length=j:=by rw[vU];exact Nat.mul_one j
theorem NmI.new {i:Nat}:¬NmI i (yX [97] (i+1)):=by
 rintro(h|⟨j,h1,h2,h3⟩)
 ·have:=congrArg List.length h;rw[zal]at this;have h0:i=0:=by simpa using this
  subst h0
  revert h
  decide
 ·have:=congrArg List.length h3;rw[zal,zal]at this;omega
theorem NmI.notz {i:Nat}:¬NmI i [122]:=by
 rintro(h|⟨j,h1,h2,h3⟩)
 ·revert h;decide
 ·have:=congrArg List.length h3;rw[zal]at this;have h0:j=1:=by simpa using this.symm
  subst h0
  revert h3
  decide
theorem zqb:∀ j,j<16->1<=j->yr (yX [97] j)=0:=by decide
structure zd4 (i:Nat) (ss:List Snp):Prop where
 len:ss.length=i+1
 nm:∀ p∈ss,NmI i (B p.1)
theorem zd4.not {i:Nat} {ss:List Snp} (h:zd4 i ss) {s:ByteArray} (hs:¬NmI i (B s)):¬jN ([],ss) s:=by
 rintro⟨h1,h2⟩;have h1:xN ([],ss) s<ss.length:=h1;have hm:ss.getD (xN ([],ss) s) zP∈ss:=zlk h1;exact hs (by rw[<- h2];exact h.nm _ hm)
theorem zd4.step {i n:Nat} {ss:List Snp} (h:zd4 i ss) {s:ByteArray} (hs:B s=yX [97] (i+1)):zd4 (i+1) (ss.insertIdx (xN ([],ss) s) (s,n)):=by
 have hp:xN ([],ss) s<=ss.length:=zcI;refine⟨?_,fun p hm=>?_⟩
 ·rw[List.length_insertIdx,if_pos hp,h.len]
 ·rcases (List.mem_insertIdx hp).1 hm with e|e
  ·subst e;exact .inr ⟨i+1,by omega,by omega,hs⟩
  ·exact(h.nm p e).up
theorem zqk (s:ByteArray) (hs:B s=[101]) (n:Nat):zd4 0 [(s,n)]:=⟨rfl,fun p hp=>by rw[mem_singleton.1 hp];exact .inl hs⟩
theorem zql {k n:Nat} {S1 S2:Spa} {c1 ls c9:List Nat} (hP:jv S0 S1 ((7:UInt8),[],strt) k) (hG:Great S1 [k] [] none) (hF:zc0 S1 S2 ([yD k],[]) n [k] [] none c1 ls) (hG9:Great { S2 with now:=c9 } [k] [] none) (hle:∀ k,c9.getD k 0<=S2.now.getD k 0):zbL k { S2 with now:=c9 } 0:=by
 obtain⟨hfz,hrt⟩:=zc1 hP hG;obtain⟨g1,g2,g3,g4⟩:=zfn hG.good hF;have hl:S0.now.length=S0.N:=vt.good.ok.now;have hmk:=hP.mk_ hl;have hf:=hmk.free;rw[zfj]at hf;have hf1:([k]:List Nat).length=1:=rfl;have hk0:k≠0:=by have:=hP.two;omega
 have hlen:=(jK.1 (zll hk0)).len;have hnp:=zeI hlen;have hr0:S1.r0=238:=by rw[hmk.r0,zkc]
 have hfew:=hF.few;have e1:alone ([yD k],[])=([yD k],[]):=rfl;rw[hr0,e1]at hfew;have hfr:=hF.made.free;have hmore:({ S1 with now:=c1 }:Spa).zR=S1.zR:=zbK (R:=[k]) (H:=[]) (M:=none) (l:=zU (alone ([yD k],[]))) hfz.used hF.cnt;have hpen:S2.dev.pen.length=S1.dev.pen.length+ls.length:=hF.made.pen;have hpen1:=hP.pen;rw[zhL]at hpen1;have hp0:([]:List (Int×ByteArray)).length=0:=rfl;have hu:=hG.good.well.root k (mem_singleton.2 rfl);have hsup:S2.sup=S1.sup:=hF.made.sup;have hr02:S2.r0=({ S1 with now:=c1 }:Spa).r0:=hF.made.r0;have hmono:S2.zR<=({ S2 with now:=c9 }:Spa).zR:=kX rfl fun m hm=>by
  obtain⟨h1,h2⟩:=zN.1 hm;refine zN.2 ⟨?_,h2⟩;have:=hle m;show c9.getD m 0=0;omega
 refine⟨hG9,?_,by omega,by show S2.dev.pen.length<=_;omega,?_,?_⟩
 ·have h1:=g4 k hu;show yh S2.page k=[];unfold yh;rw[h1,hP.page]
 ·show S2.r0=238;rw[hr02];exact hr0
 ·show S2.sup.pages.length=3;rw[hsup,hP.sup];exact zbJ
theorem zqm {k n:Nat} {S1 S2:Spa} {c1 ls:List Nat} (hP:jv S0 S1 ((7:UInt8),[],strt) k) (hG:Great S1 [k] [] none) (hF:zc0 S1 S2 ([yD k],[]) n [k] [] none c1 ls):S2.now.getD k 0=2:=by
 obtain⟨hfz,hrt⟩:=zc1 hP hG;have hl:S0.now.length=S0.N:=vt.good.ok.now;have h1:S1.now.getD k 0=1:=by rw[hP.now,yn,if_pos ⟨rfl,by rw[hl];exact hP.lt⟩]
 have hr:zU (alone ([yD k],[]))=[k]:=(zaI ([yD k],[])).trans hrt;have hc:=hF.cnt k;rw[hr,h1]at hc;have hc:c1.getD k 0=2:=by simpa using hc
 have hnl:k∉ls:=fun hk=>by
  have h0:=(zN.1 (hF.made.mem hk).2.2).1;have h0:c1.getD k 0=0:=h0;omega
 rw[hF.made.now,if_neg hnl];exact hc
abbrev FrX (F:Nat->Prop) (r:Nat):Nat->Prop:=fun k=>F k\/k=r
theorem Safe.box {P:World->Prop} {r:Nat} (h:Safe F w P) (he:Ext w w') (hr:w.heap.size<=r):Safe (FrX F r) w' P:=fun w2 o=>h w2 (Only.trans (Only.zz he) o (fun j hj=>by
 rcases hj with e|e
 ·exact .inl e
 ·exact .inr (by omega)))
theorem Safe.fill {P:World->Prop} {r:Nat} (h:Safe (FrX F r) w P) (o:Only (fun k=>k=r) w w'):Safe (FrX F r) w' P:=h.step (o.mono fun k hk=>.inr hk) (fun k hk=>.inl hk)
theorem Safe.act {P:World->Prop} {r:Nat} {F':Nat->Prop} (h:Safe (FrX F r) w P) (o:Only F w w') (hF:∀ k,F' k->F k\/w.heap.size<=k):Safe (FrX F' r) w' P:=h.step (o.mono fun k hk=>.inl hk) (fun k hk=>by
 rcases hk with e|e
 ·rcases hF k e with e|e
  ·exact .inl (.inl e)
  ·exact .inr e
 ·exact .inl (.inr e))
structure zbM (F:Nat->Prop) (w:World) (r:Nat) (X Y:SLC) (ss:List Snp):Prop where
 box:Blk w r (zB X Y) 30
 nb:¬F r
 x:Owni xg 42 w 0 X.1 X.2.1 X.2.2 []
 y:Owni zA 64 w 0 Y.1 Y.2.1 Y.2.2 ss
 nx:∀ k,orow X.1=some k->¬F k
 ny:∀ k,orow Y.1=some k->¬F k
variable {r:Nat} {X Y:SLC} {ss:List Snp}
theorem zbM.ext (h:zbM F w r X Y ss) (he:Ext w w'):zbM F w' r X Y ss:=⟨h.box.ext he,h.nb,h.x.ext he,h.y.ext he,h.nx,h.ny⟩
theorem zbM.safe (h:zbM F w r X Y ss):Safe F w fun w=>yH w X Y ([],ss):=fun w2 o=>by
 have hx:=h.x.only o h.nx;have hy:=h.y.only o h.ny;exact⟨⟨[],hx.sl,rfl,fun i hi=>by cases hi⟩,hy.sl,hx.le.1,hy.le.1⟩
theorem zi2 {P:Nat->Prop} (hO:Safe F w fun w=>z8 w 0 X Y ([],ss)):Owni xg 42 w 0 X.1 X.2.1 X.2.2 []/\Owni zA 64 w 0 Y.1 Y.2.1 Y.2.2 ss/\(∀ k,orow X.1=some k->¬F k)/\(∀ k,orow Y.1=some k->¬F k):=by
 have hx:Safe F w fun w=>Owni xg 42 w 0 X.1 X.2.1 X.2.2 []:=hO.mono fun w h=>by
  obtain⟨⟨raws,h1⟩,_⟩:=h;have:raws=[]:=eq_nil_of_length_eq_zero h1.len;subst this;exact h1.row
 have hy:Safe F w fun w=>Owni zA 64 w 0 Y.1 Y.2.1 Y.2.2 ss:=hO.mono fun w h=>h.2;exact⟨hx.now,hy.now,hx.row,hy.row⟩
end V
end Go.Proofs.YtpagephahcnijaaGreat
