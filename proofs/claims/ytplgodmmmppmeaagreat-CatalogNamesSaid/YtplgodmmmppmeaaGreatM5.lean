/- Texts of mine, merged (wip/tool/mergep.py): Great, Great2, BlobP, Great3, TreeP, KTree1, KTree2, KAtS, KAt2, KMark, KGreat, KTree3, KTree4, KTree5, KBlob1, KTree6, KTree7, KTree8, KSchema, KSchema2, SchP, CatP, KCat1, KCat2, KCat3, KCat4. -/
import Derived.Test.YtplgodmmmppmeaaGreatM4
import Derived.Test.YtplgodmmmppmeaaGreatM3
import Derived.Test.YtplgodmmmppmeaaGreatM1
open Go.IntKind (wrap)
open Go.Proofs.Tryz (prog)
open List (mem_cons_self mem_cons_of_mem mem_cons length_cons map_map mem_append mem_append_left drop_drop mem_range mem_of_getElem? getElem_mem map_cons mem_map append_assoc nodup_cons foldl_cons length_nil append_nil length_map length_set eq_nil_of_length_eq_zero range_succ map_congr_left length_append drop_of_length_le take_of_length_le getD_eq_getElem?_getD mem_singleton length_take length_drop take_succ_eq_append_getElem take_add_one not_mem_nil map_append take_left' length_replicate drop_left' flatMap_cons length_range getElem_range flatMap_append length_singleton)
set_option linter.unusedVariables false
set_option linter.unusedSimpArgs false
namespace Go.Proofs.YtplgodmmmppmeaaGreat
/- Spaces that are well,with what was committed and marked:plain. -/
namespace V
open Go Go.Proofs Go.RowKit Crc
theorem zee {S S':Spa} (hN:S'.N=S.N) (h:∀ n,S.yx n=true->S'.yx n=true):S.zQ<=S'.zQ:=by
 unfold Spa.zQ Spa.ye;rw[<- List.countP_eq_length_filter,<- List.countP_eq_length_filter,hN];refine List.countP_mono_left (fun n _ hn=>?_);rw[Bool.and_eq_true]at hn ⊢;exact⟨hn.1,h n hn.2⟩
theorem zae:∀ {a b:List Nat},a.Nodup->(∀ x∈a,x∈b)->a.length<=b.length
 |[],b,_,_=>Nat.zero_le _
 |x::r,b,hn,h=>by
  obtain⟨hx,hr⟩:=nodup_cons.1 hn;have hb:=h x mem_cons_self;have:=zae (a:=r) (b:=b.erase x) hr (fun y hy=>by
   have hyx:y≠x:=fun e=>hx (e▸hy)
   exact(List.mem_erase_of_ne hyx).2 (h y (mem_cons_of_mem _ hy)))
  rw[List.length_erase_of_mem hb]at this;have:=List.length_pos_of_mem hb;rw[length_cons];omega
theorem zfu:∀ (l:List (Nat×Fra)) (d:Dev),va d->(∀ p∈l,(p.1:Int)<d.blocks/\((B p.2.2.2).length:Int)<=zD d.size)->(l.map (·.1)).Nodup->
  ∀ p∈l,((wrL d l).1.read (p.1:Int)).1=mkB (yz d.size.toNat p.2)
 |[],d,_,_,_,p,hp=>by cases hp
 |kf::r,d,h,hl,hnd,p,hp=>by
  obtain⟨h1,h2⟩:=hl kf mem_cons_self;obtain⟨g1,g2,g3⟩:=zc6 h h1 h2;obtain⟨d1,d2,d3⟩:=uc d kf.1 kf.2;have hr:=fun p hp=>hl p (mem_cons_of_mem kf hp);have hr':∀ p∈r,(p.1:Int)<(yp d kf.1 kf.2).1.blocks/\((B p.2.2.2).length:Int)<=zD (yp d kf.1 kf.2).1.size:=fun p hp=>by rw[d1,d2];exact hr p hp
  obtain⟨k1,k2,k3⟩:=zbk r _ g2 hr';rw[map_cons,nodup_cons]at hnd;unfold wrL;rw[if_neg (fun hh=>hh g1)];rcases mem_cons.1 hp with rfl|hp
  ·rw[k3 (p.1:Int) (by rw[d2];exact⟨by omega,h1⟩) (fun q hq e=>hnd.1 (mem_map.2 ⟨q,hq,by omega⟩)),g3 _ ⟨by omega,h1⟩,if_pos rfl]
  ·have:=zfu r _ g2 hr' hnd.2 p hp;rw[this,d1]
theorem zmE {gen:Nat} {ps:List Nat} {l:List ByteArray} (h:ps.length=l.length):(xr gen ps l).map (·.1)=ps:=by
 unfold xr;rw[map_map];have:(fun p:Nat×ByteArray=>p.1)=Prod.fst:=rfl;show(ps.zip l).map Prod.fst=ps;rw[List.map_fst_zip (by omega)]
theorem zgR {d:Dev} (h:va d) {c:List Nat} {s:Sup} {slot:Int} (hchk:chk s=0) (hsz:s.size=d.size) (hps:∀ p∈s.pages,2<=p/\(p:Int)<d.blocks) (hnd:s.pages.Nodup) (hslot:slot=0\/slot=1)
  (hlen:s.pages.length=yt c.length (zJ d.size)):
  ((yK d c s slot).1.read slot).1=mkB (xz s).1/\(∀ j:Int,0<=j->j<d.blocks->j≠slot->(∀ p∈s.pages,(p:Int)≠j)->((yK d c s slot).1.read j).1=(d.read j).1)/\
   ∀ i,i<s.pages.length->((yK d c s slot).1.read ((s.pages.getD i 0:Nat):Int)).1=mkB (yz d.size.toNat ((2:UInt8),s.gen,(zT c (zJ d.size)).getD i ByteArray.empty)):=by
 obtain⟨z,N,e1,e2,e3,e4,e5,e6,e7,e8⟩:=h.ok.facts;have hPl:=zbG c (zJ d.size);have hL:∀ p∈xr s.gen s.pages (zT c (zJ d.size)),p.1∈s.pages/\((B p.2.2.2).length:Int)<=zD d.size:=by
  intro p hp;unfold xr at hp;obtain⟨q,hq,rfl⟩:=mem_map.1 hp;have h1:=(List.of_mem_zip hq).1;have h2:=(List.of_mem_zip hq).2;refine⟨h1,?_⟩;unfold zT at h2;obtain⟨i,_,hi⟩:=mem_map.1 h2;show((B q.2).length:Int)<=_;rw[<- hi,jB];have:=zft c (zJ d.size) i;omega
 have hL':∀ p∈xr s.gen s.pages (zT c (zJ d.size)),(p.1:Int)<d.blocks/\((B p.2.2.2).length:Int)<=zD d.size:=fun p hp=>⟨(hps _ (hL p hp).1).2,(hL p hp).2⟩;obtain⟨w1,w2,w3⟩:=zbk _ d h hL';have w4:=zfu _ d h hL' (by rw[zmE (by omega)];exact hnd);obtain⟨dm1,dm2,dm3⟩:=zcH (xr s.gen s.pages (zT c (zJ d.size))) d;have hget:=fun i (hi:i<s.pages.length)=>zgO (gen:=s.gen) (ps:=s.pages) (l:=zT c (zJ d.size)) (by omega) (i:=i) (by omega);obtain⟨f1,f2,f3,f4⟩:=ud w2;have fd:=vP (wrL d (xr s.gen s.pages (zT c (zJ d.size)))).1;unfold yK;generalize (xr s.gen s.pages (zT c (zJ d.size)))=L at *;generalize hr:(wrL d L)=r at *;have hp0:(xz s).2=0:=by rw[kK hchk]
 have hpl:=(zcZ hchk).1;have hs2:((((mkB (xz s).1).size:Nat)):Int)=r.1.flush.1.size:=by rw[xf,hpl,fd.1,dm1,hsz]
 have hsl:0<=slot/\slot<r.1.flush.1.blocks:=by rw[fd.2.1,dm2];omega
 obtain⟨q1,q2,q3⟩:=vx f2.ok hsl hs2 f2.fuse;have hrw:=fun(j:Int) (hj:0<=j/\j<r.1.flush.1.blocks)=>xR f2.ok hsl hs2 (by rw[f2.fuse];decide) (j:=j) hj;have hw0:=(hrw slot hsl).1;obtain⟨y1,y2,y3,y4⟩:=ud (d:=(r.1.flush.1.write slot (mkB (xz s).1)).1) ⟨q1,q2⟩;rw[if_neg (fun hh=>hh w1),if_neg (fun hh=>hh f1),if_neg (fun hh=>hh hp0),if_neg (fun hh=>hh hw0)];refine⟨?_,fun j hj hjb hjs hno=>?_,fun i hi=>?_⟩
 ·rw[y4,(hrw slot hsl).2,if_pos rfl]
 ·rw[y4 j,(hrw j (by rw[fd.2.1,dm2];omega)).2,if_neg hjs,f4 j,w3 j ⟨hj,hjb⟩ (fun p hp=>hno p.1 (hL p hp).1)]
 ·have hg:=hget i hi;have hm:=mem_of_getElem? hg;have h2:=hps _ (hL _ hm).1;dsimp only at h2;rw[y4,(hrw _ (by rw[fd.2.1,dm2];omega)).2,if_neg (by omega),f4,w4 _ hm]
structure zgS (S:Spa):Prop where
 slot:S.slot=0\/S.slot=1
 chk:chk S.sup=0
 cur:kC (B (S.dev.read S.slot).1)=(S.sup,0)
 old:(kC (B (S.dev.read (other S.slot)).1)).2≠0\/(kC (B (S.dev.read (other S.slot)).1)).1.gen<S.sup.gen
 pgs:∀ i,i<S.sup.pages.length->(S.dev.read ((S.sup.pages.getD i 0:Nat):Int)).1=mkB (yz S.dev.size.toNat ((2:UInt8),S.sup.gen,(zT S.held (zJ S.dev.size)).getD i ByteArray.empty))
 fit:∀ c∈S.held,c<65536
def MW (N:Nat) (ps:List Nat) (pg:PgF):Option (List Nat)->Option (List Nat)->Prop
 |none,none=>True
 |some l,some m=>ya N ps pg l m
 |_,_=>False
structure Great (S:Spa) (R H:List Nat) (M:Option (List Nat)):Prop where
 good:Good S R
 heldOK:zgS S
 hwell:ya S.N S.sup.pages S.page S.held H
 mwell:MW S.N S.sup.pages S.page S.mark M
 room:S.sup.pages.length<=S.zQ
theorem MW.uL {N:Nat} {ps:List Nat} {pg pg':PgF} {l m:Option (List Nat)} (h:MW N ps pg l m) (ho:∀ n,cnt l n≠0->2<=n->n<N->pg' n=pg n):MW N ps pg' l m:=by
 cases l with
 |none=>cases m with
  |none=>trivial
  |some _=>exact h.elim
 |some l=>cases m with
  |none=>exact h.elim
  |some m=>
   have h:ya N ps pg l m:=h;refine ya.uL h (fun n hn=>ho n ?_ ?_ (h.lt hn))
   ·have:=(zI.1 hn).2.2;show l.getD n 0≠0;omega
   ·exact(zI.1 hn).1
theorem zgS.zfZ {S:Spa} {R:List Nat} (h:zgS S) (hg:Good S R):zps S:=by
 obtain⟨⟨c1,c2,c3,c4⟩,c5,c6⟩:=zaO h.chk;have hN:S.sup.blocks=(S.N:Int):=hg.dims.blocks;have h4:=zcg (size:=S.sup.size) (N:=S.N) (by rw[<- hN];exact c1);rw[hN,h4]at c4;refine⟨hg.well.pgs,?_,by unfold zG at c4;omega⟩;rw[List.nodup_iff_pairwise_ne,List.pairwise_iff_getElem];intro i j hi hj hij e;apply(c5 j hj).2.2;rw[getD_eq_getElem?_getD,List.getElem?_eq_getElem hj,Option.getD_some,<- e];exact List.mem_take_iff_getElem.2 ⟨i,by omega,rfl⟩
theorem zkt {S:Spa} {R H:List Nat} {M:Option (List Nat)} {p:Page} (h:Great S (p.2.1++R) H M) (ht:3<=p.1.toNat) (hk:(p.2.1.length:Int)<=S.room 0 / 4) (hd:(p.2.2.size:Int)<=S.room p.2.1.length) (hfree:S.sup.pages.length<S.zQ):
  (S.put p).2.2=0/\kZ S (S.put p).1 p (S.put p).2.1/\Great (S.put p).1 ((S.put p).2.1::R) H M:=by
 obtain⟨h1,h2,h3⟩:=zdC h.good ht hk hd hfree;refine⟨h1,h2,?_⟩;generalize (S.put p).1=S' at *;generalize (S.put p).2.1=n at *;have hN:S'.N=S.N:=by unfold Spa.N;rw[h2.sup]
 obtain⟨f1,f2,f3⟩:=zP.1 h2.free;have hb:=h.good.dims.blocks;have hn:=h.good.dims.n;have ho:=h.heldOK;have hslot:∀ j:Int,j=0\/j=1->(S'.dev.read j).1=(S.dev.read j).1:=fun j hj=>h2.read j (by omega) (by omega) (by have:=h2.two;omega);refine⟨h3,⟨?_,?_,?_,?_,?_,?_⟩,?_,?_,?_⟩
 ·rw[h2.slot];exact ho.slot
 ·rw[h2.sup];exact ho.chk
 ·rw[h2.slot,h2.sup,hslot _ ho.slot];exact ho.cur
 ·rw[h2.slot,h2.sup,hslot _ (by unfold other;split<;>simp)];exact ho.old
 ·intro i hi;rw[h2.sup]at hi ⊢;rw[h2.held,h2.dim.1,h2.read _ (by omega) ?_ ?_]
  ·exact ho.pgs i hi
  ·have:=(h.good.well.pgs (S.sup.pages.getD i 0) (by rw[getD_eq_getElem?_getD,List.getElem?_eq_getElem hi];exact getElem_mem _)).2.1;omega
  ·intro e;have e:S.sup.pages.getD i 0=n:=by omega
   apply h2.pgs;rw[<- e,getD_eq_getElem?_getD,List.getElem?_eq_getElem hi];exact getElem_mem _
 ·rw[h2.held];exact ho.fit
 ·rw[hN,h2.sup,h2.held];exact ya.uL h.hwell (fun m hm=>h2.other m (fun e=>by subst e;have:=(zI.1 hm).2.2;omega) (h.hwell.lt hm))
 ·rw[hN,h2.sup,h2.mark];exact h.mwell.uL (fun m hm _ hmN=>h2.other m (fun e=>by subst e;exact hm f3) hmN)
 ·have:=h2.ye;have hh:=h.room;rw[h2.sup];unfold Spa.zQ at hfree ⊢;rw[this]at hfree;simp only [length_cons]at hfree;omega
theorem Great.ke {S:Spa} {R R' H:List Nat} {M:Option (List Nat)} {c:List Nat} (h:Great S R H M) (hg:Good { S with now:=c } R') (hr:S.sup.pages.length<=({ S with now:=c }:Spa).zQ):Great { S with now:=c } R' H M:=
 ⟨hg,⟨h.heldOK.slot,h.heldOK.chk,h.heldOK.cur,h.heldOK.old,h.heldOK.pgs,h.heldOK.fit⟩,h.hwell,h.mwell,hr⟩
theorem Great.perm {S:Spa} {R R' H:List Nat} {M:Option (List Nat)} (h:Great S R H M) (hp:R.Perm R'):Great S R' H M:=⟨h.good.perm hp,h.heldOK,h.hwell,h.mwell,h.room⟩
end V
/- Spaces that are well:Commit,Format,Mark,Back,Done,Share,Drop:plain. -/
namespace V
open Go Go.Proofs Go.RowKit Crc
theorem zmF {size:Int} {N:Nat} (h:zW size N=true):2*zG size N+2<=N:=by
 obtain⟨h8,n,hn,h1,h2⟩:=zdx h;obtain rfl:N=n:=by omega
 obtain⟨hp1,hp2,_⟩:=jS h8;have hx:yt N (zJ size)<=(N+55) / 56:=by
  unfold yt;rw[Nat.div_le_iff_le_mul_add_pred (by omega)];have h3:N+55<56*((N+55) / 56+1):=Nat.lt_mul_div_succ _ (by omega);have h4:56*((N+55) / 56)<=zJ size*((N+55) / 56):=Nat.mul_le_mul_right _ hp1;omega
 unfold zG;omega
theorem zku (n:Nat):(kC (B (yE n))).2≠0:=by
 intro h;obtain⟨h1,h2⟩:=zom h;have hc:=ziu (s:=(kC (B (yE n))).1) (by rw[h1]);rw[kK hc]at h1;injection h1 with h1 _
 have h3:(B (yE n)).getD 0 0=0:=by
  unfold yE;have:∀ k:Nat,(List.replicate k (0:UInt8)).getD 0 0=0:=fun k=>by cases k<;>rfl
  first
   |(rw[jB];exact this _)
   |(rw[yW];exact this _)
 rw[<- h1]at h3;have h4:(yz (kC (B (yE n))).1.size.toNat (vr (kC (B (yE n))).1)).getD 0 0=1:=by
  unfold yz xL kr;rfl
 rw[h4]at h3;cases h3
theorem uM {d:Dev} (h:va d) (hchk:chk (y0 d.size d.blocks.toNat)=0):(yA d).2=0/\Great (ql d) [] [] none/\(ql d).dev.pen=[]:=by
 obtain⟨g1,g2,g3⟩:=zhR h hchk;refine⟨g1,?_,g3⟩;obtain⟨z,N,e1,e2,e3,e4,e5,e6,e7,e8⟩:=h.ok.facts;have hN:d.blocks.toNat=N:=by omega
 have hg:zW d.size (N:Int)=true:=by rw[<- e2];exact h.ok.geo
 obtain⟨n1,n2,n3⟩:=zaR hg;have n4:=zmF hg;rw[hN]at hchk;have hz:(((yE d.size.toNat).size:Nat):Int)=d.size:=by rw[zbc];omega
 have h1:0<=(1:Int)/\(1:Int)<d.blocks:=by omega
 obtain⟨q1,q2,q3⟩:=vx h.ok h1 hz h.fuse;have hw0:=(xR h.ok h1 hz (by rw[h.fuse];decide) h1).1;have hw1:=(xR h.ok h1 hz (by rw[h.fuse];decide) h1).2;have hwd:=jH d 1 (yE d.size.toNat);have hpm:∀ p,p∈xA (zG d.size N)↔2<=p/\p<2+zG d.size N:=fun p=>by
  unfold xA;constructor
  ·intro hp;obtain⟨i,hi,rfl⟩:=mem_map.1 hp;have:=mem_range.1 hi;omega
  ·intro hp;exact mem_map.2 ⟨p-2,mem_range.2 (by omega),by omega⟩
 have hnd:(xA (zG d.size N)).Nodup:=by
  unfold xA;rw[List.nodup_iff_pairwise_ne,List.pairwise_map];exact List.Pairwise.imp (fun hab e=>by omega) List.pairwise_lt_range
 have hfl:=qR (N:=N) (np:=zG d.size N) n1;obtain⟨r1,r2,r3⟩:=zgR (d:=(d.write 1 (yE d.size.toNat)).1) ⟨q1,q2⟩ (c:=yi N (zG d.size N)) (s:=y0 d.size N) (slot:=0) hchk hwd.1.symm (fun p hp=>by have:=(hpm p).1 hp;rw[hwd.2.1];omega) hnd (.inl rfl) (by rw[hwd.1,hfl];exact kg _);have eD:yA d=yK (d.write 1 (yE d.size.toNat)).1 (yi N (zG d.size N)) (y0 d.size N) 0:=by
  unfold yA;rw[hN,if_neg (fun hh=>hh hchk),if_neg (fun hh=>hh hw0)]
 have dm:=zas (d.write 1 (yE d.size.toNat)).1 (yi N (zG d.size N)) (y0 d.size N) 0;have eS:ql d=⟨(yA d).1,y0 d.size N,0,yi N (zG d.size N),yi N (zG d.size N),none⟩:=by unfold ql;rw[hN]
 rw[eS]at g2 ⊢;refine⟨g2,⟨.inl rfl,hchk,?_,.inl ?_,?_,?_⟩,g2.well,trivial,?_⟩
 ·show kC (B ((yA d).1.read 0).1)=_;rw[eD,r1,yW];exact zmx (zcf hg) (by rw[kK hchk])
 ·show(kC (B ((yA d).1.read 1).1)).2≠0;rw[eD,r2 1 (by omega) (by rw[hwd.2.1];omega) (by omega) (fun p hp=>by have:=(hpm p).1 hp;omega),hw1,if_pos rfl];exact zku _
 ·intro i hi;show((yA d).1.read (((xA (zG d.size N)).getD i 0:Nat):Int)).1=mkB (yz (yA d).1.size.toNat ((2:UInt8),1,(zT (yi N (zG d.size N)) (zJ (yA d).1.size)).getD i ByteArray.empty));rw[eD,dm.1];exact r3 i hi
 ·intro c hc;have hc:c∈yi N (zG d.size N):=hc;unfold yi at hc;rw[mem_append,List.mem_replicate,List.mem_replicate]at hc;omega
 ·show(xA (zG d.size N)).length<=List.length _;rw[kg];have:=zae (a:=(List.range (zG d.size N)).map (·+(2+zG d.size N))) (b:=Spa.ye ⟨(yA d).1,y0 d.size N,0,yi N (zG d.size N),yi N (zG d.size N),none⟩) ?_ ?_
  ·rw[length_map,length_range]at this;exact this
  ·rw[List.nodup_iff_pairwise_ne,List.pairwise_map];exact List.Pairwise.imp (fun hab e=>by omega) List.pairwise_lt_range
  ·intro k hk;obtain⟨i,hi,rfl⟩:=mem_map.1 hk;have:=mem_range.1 hi;refine vQ.2 ⟨by show i+(2+zG d.size N)<((N:Int)).toNat;omega,by omega,zP.2 ⟨?_,?_,rfl⟩⟩
   ·show(yi N (zG d.size N)).getD _ 0=0;rw[kD n1,if_neg (by omega)]
   ·show(yi N (zG d.size N)).getD _ 0=0;rw[kD n1,if_neg (by omega)]
theorem Great.less {S:Spa} {R R' H:List Nat} {M:Option (List Nat)} {c:List Nat} (h:Great S R H M) (hg:Good { S with now:=c } R') (hle:∀ k,c.getD k 0<=S.now.getD k 0):Great { S with now:=c } R' H M:=by
 refine h.ke hg (Nat.le_trans h.room (zee rfl fun n hn=>?_));obtain⟨f1,f2,f3⟩:=zP.1 hn;exact zP.2 ⟨by have:=hle n;show c.getD n 0=0;omega,f2,f3⟩
theorem Great.more {S:Spa} {R R' H:List Nat} {M:Option (List Nat)} {n:Nat} (h:Great S R H M) (hu:zE S.sup.pages S.now n=true) (hg:Good { S with now:=S.now.set n (S.now.getD n 0+1) } R'):Great { S with now:=S.now.set n (S.now.getD n 0+1) } R' H M:=by
 refine h.ke hg (Nat.le_trans h.room (zee rfl fun k hk=>?_));obtain⟨f1,f2,f3⟩:=zP.1 hk;refine zP.2 ⟨?_,f2,f3⟩;show(S.now.set n (S.now.getD n 0+1)).getD k 0=0;have:=(zI.1 hu).2.2;rw[yr,if_neg (fun e=>by rw[e.1]at this;omega)];exact f1
end V
/- Blobs:plain. -/
namespace V
open Go Go.Proofs Go.RowKit Crc
structure Kept (S S':Spa):Prop where
 sup:S'.sup=S.sup
 held:S'.held=S.held
 mark:S'.mark=S.mark
 slot:S'.slot=S.slot
 dim:S'.dev.size=S.dev.size/\S'.dev.blocks=S.dev.blocks
 read:∀ k:Int,0<=k->k<S.N->(k.toNat<2\/S.yx k.toNat=false)->(S'.dev.read k).1=(S.dev.read k).1
structure Puts (S Si:Spa) (R ks:List Nat) (ps:List Page):Prop where
 good:Good Si (ks++R)
 sup:Si.sup=S.sup
 held:Si.held=S.held
 mark:Si.mark=S.mark
 slot:Si.slot=S.slot
 len:ps.length=ks.length
 free:S.ye=ks++Si.ye
 page:∀ j,j<ks.length->Si.page (ks.getD j 0)=(ps.getD j yX,0)
 other:∀ k,k<S.N->k∉ks->Si.page k=S.page k
 now:∀ k,Si.now.getD k 0=if k∈ks then 1 else S.now.getD k 0
 nlen:Si.now.length=S.now.length
 pen:Si.dev.pen.length=S.dev.pen.length+ks.length
 read:∀ k:Int,0<=k->k<S.N->k.toNat∉ks->(Si.dev.read k).1=(S.dev.read k).1
 dim:Si.dev.size=S.dev.size/\Si.dev.blocks=S.dev.blocks
theorem Puts.N {S Si:Spa} {R ks:List Nat} {ps:List Page} (h:Puts S Si R ks ps):Si.N=S.N:=by unfold Spa.N;rw[h.sup]
theorem Puts.nil {S:Spa} {R:List Nat} (h:Good S R):Puts S S R [] []:=⟨h,rfl,rfl,rfl,rfl,rfl,rfl,fun j hj=>absurd hj (Nat.not_lt_zero j),fun _ _ _=>rfl,fun _=>by simp,rfl,rfl,fun _ _ _ _=>rfl,rfl,rfl⟩
theorem Puts.mem {S Si:Spa} {R ks:List Nat} {ps:List Page} (h:Puts S Si R ks ps) {k:Nat} (hk:k∈ks):2<=k/\k<S.N/\S.yx k=true/\k∉S.sup.pages:=by
 have hm:k∈S.ye:=by rw[h.free];exact mem_append_left _ hk
 obtain⟨h1,h2,h3⟩:=vQ.1 hm;refine⟨h2,h1,h3,fun hp=>?_⟩;have hpg:=(h.good.well.pgs k (by rw[h.sup];exact hp)).2.2;have hu:=h.good.well.root k (mem_append_left _ hk);have:=(zI.1 hu).2.1;rw[h.sup]at this;exact this hp
theorem Puts.kept {S Si:Spa} {R ks:List Nat} {ps:List Page} (h:Puts S Si R ks ps):Kept S Si:=
 ⟨h.sup,h.held,h.mark,h.slot,h.dim,fun k h0 hk hf=>h.read k h0 hk (fun hm=>by
  obtain⟨a1,a2,a3,a4⟩:=h.mem hm
  rcases hf with hf|hf
  ·omega
  ·rw[hf]at a3;cases a3)⟩
theorem Puts.step {S Si:Spa} {R ks:List Nat} {ps:List Page} (h:Puts S Si R ks ps) {t:UInt8} {d:ByteArray} (ht:3<=t.toNat) (hd:(d.size:Int)<=Si.room 0) (hfree:Si.sup.pages.length<Si.zQ):
  (Si.put (t,[],d)).2.2=0/\Puts S (Si.put (t,[],d)).1 R (ks++[(Si.put (t,[],d)).2.1]) (ps++[(t,[],d)]):=by
 have hdim:=h.good.dims;have hsz:=hdim.size;have hr0:Si.room 0=Si.sup.size-18:=by unfold Spa.room;rw[hdim.room,if_neg (by omega)];omega
 obtain⟨h1,h2,h3⟩:=zdC (p:=(t,[],d)) (R:=ks++R) h.good ht (by show(0:Int)<=_;omega) hd hfree;refine⟨h1,?_⟩;generalize (Si.put (t,[],d)).2.1=n at *;generalize (Si.put (t,[],d)).1=S' at *;have hnk:n∉ks:=fun hk=>by
  have hf:=(zP.1 h2.free).1;rw[h.now n,if_pos hk]at hf;cases hf
 refine⟨h3.perm ?_,h2.sup.trans h.sup,h2.held.trans h.held,h2.mark.trans h.mark,h2.slot.trans h.slot,by simp[h.len],?_,fun j hj=>?_,fun k hk hks=>?_,fun k=>?_,?_,?_,fun k h0 hk hks=>?_,h2.dim.1.trans h.dim.1,h2.dim.2.trans h.dim.2⟩
 ·rw[append_assoc];exact List.perm_middle.symm
 ·rw[h.free,h2.ye,append_assoc,List.singleton_append]
 ·rw[length_append,length_singleton]at hj
  by_cases hjl:j<ks.length
  ·rw[show(ks++[n]).getD j 0=ks.getD j 0 by rw[getD_eq_getElem?_getD,List.getElem?_append_left hjl,<- getD_eq_getElem?_getD],show(ps++[((t,[],d):Page)]:List Page).getD j yX=ps.getD j yX by rw[getD_eq_getElem?_getD,List.getElem?_append_left (by rw[h.len];exact hjl),<- getD_eq_getElem?_getD]];have hmem:ks.getD j 0∈ks:=by rw[getD_eq_getElem?_getD,List.getElem?_eq_getElem hjl];exact getElem_mem hjl
   rw[h2.other _ (fun e=>hnk (e▸hmem)) (by rw[h.N];exact(h.mem hmem).2.1),h.page j hjl]
  ·obtain rfl:j=ks.length:=by omega
   rw[show(ks++[n]).getD ks.length 0=n by simp,show(ps++[((t,[],d):Page)]:List Page).getD ks.length yX=(t,[],d) by rw[<- h.len];simp];exact h2.page
 ·simp only [mem_append,mem_singleton,not_or]at hks;rw[h2.other k hks.2 (by rw[h.N];exact hk),h.other k hk hks.1]
 ·rw[h2.now,yr,h.now k];have hnl:n<Si.now.length:=by have:=h2.lt;rw[h.good.ok.now];exact this
  by_cases hkn:n=k
  ·subst hkn;rw[if_pos ⟨rfl,hnl⟩,if_pos (by simp)]
  ·rw[if_neg (fun e=>hkn e.1)]
   by_cases hk:k∈ks
   ·rw[if_pos hk,if_pos (mem_append_left _ hk)]
   ·rw[if_neg hk,if_neg (fun e=>by rcases mem_append.1 e with e|e;exact hk e;exact hkn (mem_singleton.1 e).symm)]
 ·rw[h2.now,length_set];exact h.nlen
 ·rw[h2.pen,h.pen,length_append,length_singleton];omega
 ·simp only [mem_append,mem_singleton,not_or]at hks;rw[h2.read k h0 (by rw[h.N];exact hk) (by omega),h.read k h0 hk hks.1]
theorem zgT {S:Spa} {R:List Nat} {p:Page} (h:Good S (p.2.1++R)) (ht:3<=p.1.toNat) (hk:(p.2.1.length:Int)<=S.room 0 / 4) (hd:(p.2.2.size:Int)<=S.room p.2.1.length) (hfree:S.zQ<=S.sup.pages.length):S.put p=(S,0,9):=by
 have hdim:=h.dims;have hsz:=hdim.size;have hr0:S.room 0=S.sup.size-18:=by unfold Spa.room;rw[hdim.room,if_neg (by omega)];omega
 have hku:∀ k∈p.2.1,zE S.sup.pages S.now k=true:=fun k hk=>h.well.root k (mem_append_left _ hk);have hE0:S.jE p=9:=by
  unfold Spa.jE;rw[if_neg,if_neg,if_neg,if_pos hfree]
  ·rintro(e|e)<;>omega
  ·rintro⟨k,hk,e⟩;exact(qd h (hku k hk)).2.1 e
  ·rintro(e|e|⟨k,hk,e⟩)
   ·omega
   ·omega
   ·rw[(qd h (hku k hk)).1]at e;cases e
 unfold Spa.put;rw[if_pos (by rw[hE0];simp),hE0]
inductive Drps (ask:Nat->Bool) (pg:PgF):List Nat->List Nat->List Nat->Prop
 |nil (c:List Nat):Drps ask pg c [] c
 |cons {c c1 c' ks:List Nat} {k:Nat} {e:Int}:(ask k=true->Drp ask pg c [k] c1 e)->(ask k=false->c1=c/\e=2)->Drps ask pg c1 ks c'->Drps ask pg c (k::ks) c'
theorem zc9 {ask:Nat->Bool} {pg:PgF}:∀ (ks c:List Nat),ks.Nodup->(∀ k∈ks,ask k=true/\2<=k/\k<c.length/\c.getD k 0=1/\(pg k).2=0/\z6 pg k=[])->∃ c',Drps ask pg c ks c'/\c'.length=c.length/\∀ k,c'.getD k 0=if k∈ks then 0 else c.getD k 0
 |[],c,_,_=>⟨c,.nil c,rfl,fun k=>by simp⟩
 |a::t,c,hnd,h=>by
  obtain⟨h1,h2,h3,h4,h5,h6⟩:=h a mem_cons_self;obtain⟨hat,hnd⟩:=nodup_cons.1 hnd;have ea:atE c a=0:=by unfold atE;rw[if_neg (by omega),if_neg (by omega)]
  have es:xk c a=c.set a 0:=by unfold xk;rw[if_pos ea,h4]
  obtain⟨c',g1,g2,g3⟩:=zc9 t (c.set a 0) hnd (fun k hk=>by
   obtain⟨k1,k2,k3,k4,k5,k6⟩:=h k (mem_cons_of_mem _ hk)
   refine⟨k1,k2,by rw[length_set];exact k3,?_,k5,k6⟩
   rw[yr,if_neg (show ¬(a=k/\k<c.length) from fun e=>hat (e.1▸hk))]
   exact k4)
  refine⟨c',.cons (c1:=c.set a 0) (e:=0) (fun _=>.last h4 h1 h5 (by rw[h6,es];exact .nil _)) (fun e=>by rw[h1]at e;cases e) g1,by rw[g2,length_set],fun k=>?_⟩;rw[g3 k,yr]
  by_cases hk:k∈t
  ·rw[if_pos hk,if_pos (mem_cons_of_mem _ hk)]
  ·rw[if_neg hk]
   by_cases hak:a=k
   ·subst hak;rw[if_pos ⟨rfl,h3⟩,if_pos mem_cons_self]
   ·rw[if_neg (fun e=>hak e.1),if_neg (fun e=>by rcases mem_cons.1 e with e|e;exact hak e.symm;exact hk e)]
theorem zhS (S:Spa):S.ye.Nodup:=by
 unfold Spa.ye;exact List.Pairwise.filter _ List.nodup_range
theorem Puts.undo {S Si:Spa} {R ks:List Nat} {ps:List Page} (h:Puts S Si R ks ps) (h0:Good S R) (hp:∀ j,j<ks.length->(ps.getD j yX).2.1=[]):
  ∃ c',Drps Si.asked Si.page Si.now ks c'/\c'=S.now/\Good { Si with now:=c' } R:=by
 have hnd:ks.Nodup:=by
  have:=zhS S;rw[h.free]at this;exact(List.nodup_append.1 this).1
 have hkl:∀ k∈ks,∃ j,j<ks.length/\ks.getD j 0=k:=fun k hk=>by
  obtain⟨j,hj,e⟩:=List.mem_iff_getElem.1 hk;exact⟨j,hj,by rw[getD_eq_getElem?_getD,List.getElem?_eq_getElem hj];exact e⟩
 obtain⟨c',g1,g2,g3⟩:=zc9 (ask:=Si.asked) (pg:=Si.page) ks Si.now hnd (fun k hk=>by
  obtain⟨m1,m2,m3,m4⟩:=h.mem hk
  obtain⟨j,hj,e⟩:=hkl k hk
  have hpj:=h.page j hj
  rw[e]at hpj
  refine⟨kM.2 ⟨m1,by rw[h.N];exact m2,by rw[h.sup];exact m4⟩,m1,by rw[h.good.ok.now,h.N];exact m2,by rw[h.now k,if_pos hk],by rw[hpj],by unfold z6;rw[hpj];exact hp j hj⟩)
 have ec:c'=S.now:=by
  refine qA (by rw[g2,h.nlen]) (fun k=>?_);rw[g3 k,h.now k]
  by_cases hk:k∈ks
  ·rw[if_pos hk];have:=(zP.1 (h.mem hk).2.2.1).1;omega
  ·rw[if_neg hk,if_neg hk]
 refine⟨c',g1,ec,?_⟩;rw[ec];refine h.good.ke (by rw[h.nlen]) ?_;rw[h.N,h.sup];refine h0.well.uL (fun m hm=>?_);refine h.other m (h0.well.lt hm) (fun hk=>?_);have:=(zP.1 (h.mem hk).2.2.1).1;have:=(zI.1 hm).2.2;omega
def nparts (r len:Nat):Nat:=(len+r-1) / r
def part (r:Nat) (b:ByteArray) (i:Nat):ByteArray:=b.extract (i*r) (min b.size ((i+1)*r))
def vJ (r:Nat) (b:ByteArray) (n:Nat):List Page:=(List.range n).map fun i=>((7:UInt8),[],part r b i)
theorem zjt (r:Nat) (b:ByteArray) (n:Nat):vJ r b (n+1)=vJ r b n++[((7:UInt8),[],part r b n)]:=by simp[vJ,range_succ]
theorem zch {r len i:Nat} (hr:1<=r):i<nparts r len↔i*r<len:=uE hr
theorem zci {r:Nat} {b:ByteArray} {i:Nat} (hr:1<=r) (h:i<nparts r b.size):(part r b i).size=min r (b.size-i*r)/\1<=(part r b i).size:=by
 have:=(zch hr).1 h;unfold part;rw[ByteArray.size_extract];have e:(i+1)*r=i*r+r:=by rw[Nat.add_mul,Nat.one_mul]
 rw[e];omega
theorem zef {r:Nat} (hr:1<=r) (b:ByteArray):∀ n,n<=nparts r b.size->((List.range n).flatMap fun i=>B (part r b i))=(B b).take (n*r)
 |0,_=>by simp
 |n+1,h=>by
  have ih:=zef hr b n (by omega);rw[range_succ,flatMap_append,ih];have hlt:=(zch (r:=r) (len:=b.size) (i:=n) hr).1 (by omega);have e:(n+1)*r=n*r+r:=by rw[Nat.add_mul,Nat.one_mul]
  simp only [flatMap_cons,List.flatMap_nil,append_nil];unfold part;rw[jC,e,List.take_add];congr 1;have hl:(B b).length=b.size:=(yj b).symm;rcases Nat.le_total b.size (n*r+r) with hh|hh
  ·rw[Nat.min_eq_left hh,take_of_length_le (by rw[length_drop];omega),take_of_length_le (by rw[length_drop];omega)]
  ·rw[Nat.min_eq_right hh,show n*r+r-n*r=r by omega]
def Spa.r0 (S:Spa):Nat:=(S.room 0).toNat
def qG (r:Nat):Nat:=min 65536 ((r-4) / 4*r)
structure Blob (S:Spa) (n:Nat) (b:ByteArray) (ks:List Nat):Prop where
 idx:S.get n=(((6:UInt8),ks,mkB (le 4 b.size)),0)
 len:ks.length=nparts S.r0 b.size
 data:∀ i,i<ks.length->S.get (ks.getD i 0)=(((7:UInt8),[],part S.r0 b i),0)
 most:b.size<=qG S.r0
end V
/- Spaces that are well,and blobs;what may have changed is told by Kept:plain. -/
namespace V
open Go Go.Proofs Go.RowKit Crc
end V
/- Trees of at most two levels:plain. -/
namespace V
open Go Go.Proofs Go.RowKit Crc
structure Mk (S S':Spa) (ks:List Nat):Prop where
 sup:S'.sup=S.sup
 held:S'.held=S.held
 mark:S'.mark=S.mark
 slot:S'.slot=S.slot
 dim:S'.dev.size=S.dev.size/\S'.dev.blocks=S.dev.blocks
 ye:S.ye=ks++S'.ye
 now:∀ k,S'.now.getD k 0=if k∈ks then 1 else S.now.getD k 0
 other:∀ k,k<S.N->k∉ks->S'.page k=S.page k
 read:∀ k:Int,0<=k->k<S.N->k.toNat∉ks->(S'.dev.read k).1=(S.dev.read k).1
 pen:S'.dev.pen.length=S.dev.pen.length+ks.length
theorem Mk.refl (S:Spa):Mk S S []:=⟨rfl,rfl,rfl,rfl,⟨rfl,rfl⟩,rfl,fun k=>by simp,fun _ _ _=>rfl,fun _ _ _ _=>rfl,rfl⟩
theorem Mk.N {S S':Spa} {ks:List Nat} (h:Mk S S' ks):S'.N=S.N:=by unfold Spa.N;rw[h.sup]
theorem Mk.trans {S S1 S2:Spa} {ks ls:List Nat} (h:Mk S S1 ks) (g:Mk S1 S2 ls):Mk S S2 (ks++ls):=by
 have hN:=h.N;refine⟨g.sup.trans h.sup,g.held.trans h.held,g.mark.trans h.mark,g.slot.trans h.slot,⟨g.dim.1.trans h.dim.1,g.dim.2.trans h.dim.2⟩,by rw[h.ye,g.ye,append_assoc],fun k=>?_,fun k hk hn=>?_,fun k h0 hk hn=>?_,by rw[g.pen,h.pen,length_append,Nat.add_assoc]⟩
 ·rw[g.now,h.now]
  by_cases e1:k∈ls
  ·rw[if_pos e1,if_pos (List.mem_append_right _ e1)]
  ·rw[if_neg e1]
   by_cases e2:k∈ks
   ·rw[if_pos e2,if_pos (mem_append_left _ e2)]
   ·rw[if_neg e2,if_neg (fun e=>by rcases mem_append.1 e with e|e;exact e2 e;exact e1 e)]
 ·rw[mem_append,not_or]at hn;rw[g.other k (by omega) hn.2,h.other k hk hn.1]
 ·rw[mem_append,not_or]at hn;rw[g.read k h0 (by omega) hn.2,h.read k h0 hk hn.1]
theorem kZ.mk_ {S S':Spa} {p:Page} {n:Nat} (h:kZ S S' p n) (hl:S.now.length=S.N):Mk S S' [n]:=by
 refine⟨h.sup,h.held,h.mark,h.slot,h.dim,h.ye,fun k=>?_,fun k hk hn=>h.other k (fun e=>hn (by simp[e])) hk,fun k h0 hk hn=>h.read k h0 hk (fun e=>hn (by simp[e])),h.pen⟩;have:=h.lt;rw[h.now,yr,hl]
 by_cases e:k=n
 ·subst e;rw[if_pos ⟨rfl,this⟩,if_pos (mem_singleton.2 rfl)]
 ·rw[if_neg (fun e'=>e e'.1.symm),if_neg (fun e'=>e (mem_singleton.1 e'))]
theorem Puts.mk_ {S Si:Spa} {R ks:List Nat} {ps:List Page} (h:Puts S Si R ks ps):Mk S Si ks:=
 ⟨h.sup,h.held,h.mark,h.slot,h.dim,h.free,h.now,h.other,h.read,h.pen⟩
theorem Mk.free {S S':Spa} {ks:List Nat} (h:Mk S S' ks):S.zQ=S'.zQ+ks.length:=by
 unfold Spa.zQ;rw[h.ye,length_append];omega
theorem Mk.mem {S S':Spa} {ks:List Nat} (h:Mk S S' ks) {k:Nat} (hk:k∈ks):k<S.N/\2<=k/\S.yx k=true:=vQ.1 (by rw[h.ye];exact mem_append_left _ hk)
theorem Mk.used {S S':Spa} {ks R:List Nat} (h:Mk S S' ks) (hg:Good S R) {k:Nat} (hu:zE S.sup.pages S.now k=true):S'.page k=S.page k/\S'.now.getD k 0=S.now.getD k 0/\k∉ks:=by
 have hn:k∉ks:=fun hk=>by
  have:=(zP.1 (h.mem hk).2.2).1;have:=(zI.1 hu).2.2;omega
 exact⟨h.other k (hg.well.lt hu) hn,by rw[h.now,if_neg hn],hn⟩
theorem Mk.room {S S':Spa} {ks:List Nat} (h:Mk S S' ks) (k:Int):S'.room k=S.room k:=by unfold Spa.room;rw[h.sup]
theorem Mk.r0 {S S':Spa} {ks:List Nat} (h:Mk S S' ks):S'.r0=S.r0:=by unfold Spa.r0;rw[h.room]
abbrev Nd:=UInt8×List Nat×List Nat×List Nat
def k8B (l:List Nat):List UInt8:=l.flatMap (le 8)
theorem ue:∀ l:List Nat,(k8B l).length=8*l.length
 |[]=>rfl
 |x::r=>by
  have:=ue r;unfold k8B at this ⊢;rw[flatMap_cons,length_append,zv,this,length_cons];omega
def xH:List Nat->Bool
 |[]=>true
 |[_]=>true
 |x::y::r=>decide (x<y)&&xH (y::r)
inductive xZ:Page->Nd->Prop
 |refs (ks kids:List Nat):ks.length=kids.length->1<=ks.length->xH ks=true->(∀ k∈ks,k<18446744073709551616)->xZ ((5:UInt8),kids,mkB (k8B ks)) ((5:UInt8),ks,[],kids)
 |inner (ks kids:List Nat):ks.length=kids.length->2<=ks.length->xH ks=true->(∀ k∈ks,k<18446744073709551616)->xZ ((3:UInt8),kids,mkB (k8B ks)) ((3:UInt8),ks,[],kids)
 |leaf (k v:Nat):k<18446744073709551616->v<18446744073709551616->xZ ((4:UInt8),[],mkB (k8B [k,v])) ((4:UInt8),[k],[v],[])
theorem qH:∀ {l:List Nat},xH l=true↔∀ i,i+1<l.length->l.getD i 0<l.getD (i+1) 0
 |[]=>by simp[xH]
 |[_]=>by simp[xH]
 |x::y::r=>by
  have ih:=qH (l:=y::r);simp only [xH,Bool.and_eq_true,decide_eq_true_iff];constructor
  ·rintro⟨h1,h2⟩ i hi;cases i with
   |zero=>exact h1
   |succ i=>exact ih.1 h2 i (by simpa using hi)
  ·intro h;exact⟨h 0 (by simp),ih.2 fun i hi=>h (i+1) (by simpa using hi)⟩
theorem zcj {l:List Nat} (h:xH l=true):∀ (d i:Nat),i+d+1<l.length->l.getD i 0<l.getD (i+d+1) 0
 |0,i,hi=>qH.1 h i hi
 |d+1,i,hi=>Nat.lt_trans (zcj h d i (by omega)) (qH.1 h (i+d+1) (by omega))
theorem zhT {l:List Nat} (h:xH l=true) (n:Nat):xH (l.take n)=true:=by
 rw[qH]at h ⊢;intro i hi;rw[length_take]at hi;have e:∀ j,j<n->(l.take n).getD j 0=l.getD j 0:=fun j hj=>by rw[getD_eq_getElem?_getD,List.getElem?_take,if_pos hj,<- getD_eq_getElem?_getD]
 rw[e i (by omega),e (i+1) (by omega)];exact h i (by omega)
theorem zhU {l:List Nat} (h:xH l=true) (n:Nat):xH (l.drop n)=true:=by
 rw[qH]at h ⊢;intro i hi;rw[length_drop]at hi;have e:∀ j,(l.drop n).getD j 0=l.getD (n+j) 0:=fun j=>by rw[getD_eq_getElem?_getD,List.getElem?_drop,<- getD_eq_getElem?_getD]
 rw[e i,e (i+1)];exact h (n+i) (by omega)
def jn (S:Spa) (n:Nat) (ks vs:List Nat):Prop:=S.page n=(((5:UInt8),vs,mkB (k8B ks)),0)/\ks.length=vs.length/\1<=ks.length/\xH ks=true/\∀ k∈ks,k<18446744073709551616
inductive vb (S:Spa) (n:Nat) (ks vs:List Nat):Prop
 |one:jn S n ks vs->vb S n ks vs
 |two (m a b:Nat):1<=m->m<ks.length->ks.length=vs.length->xH ks=true->(∀ k∈ks,k<18446744073709551616)->S.page n=(((3:UInt8),[a,b],mkB (k8B [ks.getD 0 0,ks.getD m 0])),0)->
   jn S a (ks.take m) (vs.take m)->jn S b (ks.drop m) (vs.drop m)->vb S n ks vs
theorem jn.ok {S:Spa} {n:Nat} {ks vs:List Nat} (h:jn S n ks vs):xZ (S.page n).1 ((5:UInt8),ks,[],vs):=by
 rw[h.1];exact xZ.refs ks vs h.2.1 h.2.2.1 h.2.2.2.1 h.2.2.2.2
theorem jn.keep {S S':Spa} {n:Nat} {ks vs:List Nat} (h:jn S n ks vs) (e:S'.page n=S.page n):jn S' n ks vs:=by
 unfold jn;rw[e];exact h
theorem vb.len {S:Spa} {n:Nat} {ks vs:List Nat} (h:vb S n ks vs):ks.length=vs.length:=by
 cases h with
 |one h=>exact h.2.1
 |two m a b h1 h2 h3=>exact h3
end V
/- Contracts of the package tree:words,parse,get. -/
namespace V
open Go Go.Proofs Go.RowKit Crc
theorem kE:jR prog 129 42 (.int .u64 0) 1 8:=⟨by kernel_rfl,by kernel_rfl,by kernel_rfl⟩
theorem ziy:∀ (ks:List Nat) (i:Nat),i<ks.length->((k8B ks).drop (8*i)).take 8=le 8 (ks.getD i 0)
 |[],i,h=>by simp at h
 |k::r,0,h=>by
  unfold k8B;rw[flatMap_cons,Nat.mul_zero,List.drop_zero,take_left' (zv 8 k)];rfl
 |k::r,i+1,h=>by
  have ih:=ziy r i (by simpa using h);unfold k8B at ih ⊢;rw[flatMap_cons,show 8*(i+1)=8+8*i by omega,<- drop_drop,drop_left' (zv 8 k),ih];rfl
theorem zhV {w:World} {s:ByteArray} {ks:List Nat} (hs:B s=k8B ks) (h64:∀ k∈ks,k<18446744073709551616) (hn:ks.length<=10000):
  Calls prog 217 #[.string s] w (Ret fun v w'=>∃ A c,v=.tuple #[.slice A ks.length c,.bool true]/\Owni (zu .u64) 42 w' w.heap.size A ks.length c ks/\Ext w w'):=by
 have hss:s.size=8*ks.length:=by rw[yj,hs,ue]
 apply zmg;unfold S217;refine zr fun r1 w1 hb1 he1 hr1 hz1=>?_;refine kU (u:=.string) (e:=5) (by kernel_rfl) (by kernel_rfl) (by kernel_rfl) (by omega) ?_;intro cc w2 hsl he2 hs2 hcc;refine zb (zgx (k:=8) (by omega) hcc (by dsimp only;omega)) ?_;rintro v w3 ⟨hit,hRc,hs3,he3⟩;refine⟨v,rfl,?_⟩;dsimp only at hit hRc;have he:=(he1.trans he2).trans he3;have hsl:=hsl.ext he3;have hb1:=hb1.ext (he2.trans he3);have hcn:(qq 1 (some ⟨w1.heap.size,0,none⟩) s.size 8).length=ks.length:=by rw[xF];unfold yt;omega
 refine zaJ (R:=zcD w2.heap.size (w2.heap.size+1) (some ⟨w1.heap.size,0,none⟩) s.size cc 8) (fun i w'=>Ext w w'/\zcD w2.heap.size (w2.heap.size+1) (some ⟨w1.heap.size,0,none⟩) s.size cc 8 w'/\Sl w' (some ⟨w1.heap.size,0,none⟩) s.size (bV (B s))/\∃ A c,Blk w' r1 [.slice A i c] 129/\Owni (zu .u64) 42 w' (w3.heap.size+2) A i c (ks.take i)) hit (fun i w' hI=>hI.2.1) (fun i w' hI=>⟨hI.1.drew,hI.2⟩) ?_ ?_ ?_ ?_
 ·rintro i w' w'' hsb ⟨e1,⟨e2,e3⟩,e6,A,c,e4,e5⟩;have hkeep:∀ j:Nat,j<w3.heap.size->w''.heap[j]?=w'.heap[j]?:=fun j hj=>hsb.2.2.2.2 j (by omega) (by omega);refine⟨e1.qk hsb (by omega) (by omega),⟨(hkeep _ (by omega)).trans e2,(hkeep _ (by omega)).trans e3⟩,⟨e6.1,e6.2.1,fun hn=>?_⟩,A,c,(hkeep _ (by omega)).trans e4,e5.qk hsb (by omega) (by omega)⟩;obtain⟨a,ha,hcell⟩:=e6.2.2 hn;refine⟨a,ha,fun j v hj=>?_⟩;injection ha with ha
  subst ha;have:=hcell j v hj;rw[zy]at this ⊢;simp only [World.cell?]at this ⊢;rw[hkeep _ (by omega)];exact this
 ·intro o;have hx:=((Ext.refl w3).alloc (.deferred (some []))).alloc o;exact⟨he.trans hx,⟨hRc.1.ext hx,hRc.2.ext hx⟩,hsl.ext hx,none,0,hb1.ext hx,Owni.nil _ _ _⟩
 ·rintro i hi w' N jump ⟨e1,⟨e2,e3⟩,e6,A,c,e4,e5⟩ hsz' hN;rw[hcn]at hi;have hcut:(qq 1 (some ⟨w1.heap.size,0,none⟩) s.size 8)[i]'(by rw[hcn];exact hi)=[.slice (zm (some ⟨w1.heap.size,0,none⟩) (i*8) (i*8+8) 1) 8 8]:=by
   have:min 8 (s.size-i*8)=8:=by omega
   simp[qq,this]
  refine⟨((zm (some ⟨w1.heap.size,0,none⟩) (i*8) (i*8+8) 1,8,8),()),hcut.symm,?_⟩;dsimp only;have hsub:=e6.cut (l:=i*8) (k:=8) (m:=i*8+8) (by omega) (by omega);rw[vp,qZ,hs,Nat.mul_comm i 8,ziy ks i hi,Nat.mul_comm 8 i]at hsub;refine zM fun w4 he4 hz4 hh4=>?_;have f4:=e4.ext he4;have f5:=e5.ext he4;refine zo (x:=(A,i,c)) f4 (by rfl) ?_;refine zb (qP (hsub.ext he4) (by omega)) ?_;rintro _ w5 ⟨rfl,he5⟩;have hk:ks.getD i 0<18446744073709551616:=by
   rw[getD_eq_getElem?_getD,List.getElem?_eq_getElem hi];exact h64 _ (getElem_mem _)
  refine⟨_,rfl,?_⟩;rw[uD,Nat.mod_eq_of_lt (by exact hk)];have f4:=f4.ext he5;have f5:=f5.ext he5;refine xy (yd f4 rfl) ?_;have he45:=he4.trans he5;have hz45:=he45.size;refine zr fun r12 w6 hb6 he6 hr6 hz6=>?_;refine xy (yd (f4.ext he6) rfl) ?_;have f4:=f4.ext he6;have f5:=f5.ext he6;have hx:Sli (zu .u64) w6 (some ⟨r12,0,none⟩) 1 [ks.getD i 0]:=Sli.xC (E:=zu .u64) (xs:=[ks.getD i 0]) hb6 rfl (by omega);refine xc kE f5 (by omega) hx (by dsimp only;omega) (by omega) ?_;intro A2 c2 w7 ho7 hg7 _;have hr1l:r1<w3.heap.size:=by have:=hb1.lt;omega
  have f4:Blk w7 r1 _ _:=f4.grown hg7.grown (fun hh=>by have:=f5.row _ hh.symm;omega);refine zS f4 (by simp) ?_;have hset:=f4.set 0 (.slice A2 (i+1) c2);have he46:=he45.trans he6;have e7:Ext w w7:=(e1.trans he46).grown hg7.grown (fun j hj=>by have:=f5.row j hj;omega);have hx7:∀ k,k<w3.heap.size+2->w7.heap[k]?=w'.heap[k]?:=fun k hk=>by
   rw[hg7.grown.block k (by omega) (fun hh=>by have:=f5.row _ hh.symm;omega)];exact he46.block k (by omega)
  have hx8:∀ k,k<w3.heap.size+2->k≠r1->(w7.setCell ⟨r1,0,none⟩ (.slice A2 (i+1) c2)).heap[k]?=w'.heap[k]?:=fun k hk hne=>by
   rw[Below.heap_setCell _ _ _ _ (fun e=>hne e)];exact hx7 k hk
  have hg8:=hg7.grown.size;refine hN _ ⟨e7.set (by simp only;omega) _,⟨?_,?_⟩,⟨e6.1,e6.2.1,fun hn=>?_⟩,A2,c2,hset,?_⟩ ?_ ?_
  ·exact(hx8 _ (by omega) (by omega)).trans e2
  ·exact(hx8 _ (by omega) (by omega)).trans e3
  ·obtain⟨a,ha,hcell⟩:=e6.2.2 hn;refine⟨a,ha,fun j v hj=>?_⟩;injection ha with ha
   subst ha;have:=hcell j v hj;rw[zy]at this ⊢;simp only [World.cell?]at this ⊢;rw[hx8 _ (by omega) (by omega)];exact this
  ·have e9:ks.take (i+1)=ks.take i++[ks.getD i 0]:=by
    rw[take_succ_eq_append_getElem hi,getD_eq_getElem?_getD,List.getElem?_eq_getElem hi];rfl
   rw[e9];refine ho7.grown (row:=some r1) ⟨rfl,rfl,rfl,by simp,fun k hk hne=>Below.heap_setCell _ _ _ _ (fun e=>hne (by rw[e]))⟩ (fun j hj he=>?_);injection hj with hj
   have:=ho7.row _ he;omega
  ·have:=he46.size;simp;omega
  ·intro k hk;exact hx8 k (by omega) (by omega)
 ·rintro w' ⟨e1,⟨e2,e3⟩,e6,A,c,e4,e5⟩ hsz' hd;rw[hcn]at e4 e5;rw[take_of_length_le (by omega)]at e5;have hr1l:r1<w3.heap.size:=by have:=hb1.lt;omega
  show(ldW _ _ _) w';refine zo (x:=(A,ks.length,c)) e4 (by rfl) ?_;dsimp only;refine zS e4 (by simp) ?_;have hset:=e4.set 0 (.slice A ks.length c);refine ja (by rw[Below.heap_setCell _ _ _ _ (by simp only;omega)];exact hd) ?_;refine zo (x:=(A,ks.length,c)) (show Blk _ r1 [.slice A ks.length c] 129 from(zO (by omega)).trans hset) (by rfl) ?_;refine⟨A,c,?_,?_,(e1.set (by simp only;omega) _).yy (by omega) _⟩
  ·rw[show Int.tmod ((s.size:Nat):Int) 8=0 by rw[hss,show((8*ks.length:Nat):Int)=8*(ks.length:Int) by omega,Int.mul_tmod_right]];rfl
  have e6:=e5.grown (w':=w'.setCell ⟨r1,0,none⟩ (.slice A ks.length c)) (row:=some r1) ⟨rfl,rfl,rfl,by simp,fun k hk hne=>Below.heap_setCell _ _ _ _ (fun e=>hne (by rw[e]))⟩ (fun j hj he=>by
   injection hj with hj
   have:=e5.row _ he
   omega)
  have e7:Owni (zu .u64) 42 (yy (w'.setCell ⟨r1,0,none⟩ (.slice A ks.length c)) w3.heap.size (.deferred none)) (w3.heap.size+2) A ks.length c ks:=
   e6.qk (zX (b:=w3.heap.size) (.inl rfl)) (by omega) (by omega)
  exact e7.lower (by omega)
end V
/- Contracts of the package tree:parse. -/
namespace V
open Go Go.Proofs Go.RowKit Crc
theorem Owni.sDf {α:Type} {E:Enc α} {e:TypeId} {Bd:Nat} {w w':World} {B:Nat} {A:Option Addr} {n c:Nat} {xs:List α} (h:Owni E e w B A n c xs) (hs:zd4 Bd w w'):Owni E e w' B A n c xs:=by
 refine⟨h.1,?_⟩;rcases h.2 with hn|⟨g,cap,cur,hv,hb,hgg,rest⟩
 ·exact .inl hn
 ·exact .inr ⟨g,cap,cur,hv,hb,(hs.2.2.2.2 g (.inr (by rw[hgg];simp))).trans hgg,rest⟩
def ndV (t:UInt8) (x y z:SLC):List Value:=[.int .u8 (t.toNat:Int),.slice x.1 x.2.1 x.2.2,.slice y.1 y.2.1 y.2.2,.slice z.1 z.2.1 z.2.2]
abbrev qS:List Lf:=[.int .u8,.slc,.slc,.slc]
def ndT (t:UInt8) (x y z:SLC):Int×SLC×SLC×SLC×Unit:=((t.toNat:Int),x,y,z,())
theorem jb (t:UInt8) (x y z:SLC):∀ v∈ndV t x y z,v.oneCell'=true:=by
 intro v hv;simp only [ndV,mem_cons,not_mem_nil,or_false]at hv;rcases hv with rfl|rfl|rfl|rfl<;>rfl
def zbl (r1 r2:Nat) (A:Option Addr) (n c k:Nat):WP:=fun w=>Blk w r1 [.slice A n c] 129/\Blk w r2 [.int .i64 (k:Int)] 3
theorem zfP {w:World} {A:Option Addr} {n c k:Nat} (hk:1<=k) (hnc:n<=c) (hnk:n+k<=9223372036854775807):Calls prog 218 #[.slice A n c,.int .i64 (k:Int)] w (Ret fun v w'=>Iter prog v (qq 1 A n k) (zbl w.heap.size (w.heap.size+1) A n c k)/\zbl w.heap.size (w.heap.size+1) A n c k w'/\w'.heap.size=w.heap.size+2/\Ext w w'):=by
 apply zmh;unfold S218;refine zr fun r1 w1 hb1 he1 hr1 hz1=>?_;refine zr fun r2 w2 hb2 he2 hr2 hz2=>?_;subst hr1;have hr2:w.heap.size+1=r2:=by omega
 subst hr2;refine zo (x:=(k:Int)) hb2 (by rfl) ?_;refine zd (decide_eq_false (by omega)) ?_;refine⟨⟨_,_,rfl,by kernel_rfl,fun l J w' hJ hR hd hY=>?_⟩,⟨hb1.ext he2,hb2⟩,by omega,he1.trans he2⟩;apply zmk;exact zba (P:=prog) hk hnc hnk hJ hR hd hY
structure zat (w:World) (N:Nat) (d:Nd) (x y z:SLC):Prop where
 ks:Owni (zu .u64) 42 w N x.1 x.2.1 x.2.2 d.2.1
 vs:Owni (zu .u64) 42 w N y.1 y.2.1 y.2.2 d.2.2.1
 kids:Sli (zu .u32) w z.1 z.2.1 d.2.2.2
theorem zhW {w:World} {p:Page} {d:Nd} {y:SLC} (hd:xZ p d) (hs:Sli (zu .u32) w y.1 y.2.1 p.2.1) (hn:d.2.1.length<=5000):
  Calls prog 202 #[.agg (pgV p y).toArray] w (Ret fun v w'=>∃ x z,v=.tuple #[.agg (ndV d.1 x z y).toArray,.int .i64 0]/\zat w' w.heap.size d x z y/\Ext w w'):=by
 apply zl6;unfold S202;refine zr fun r1 w1 hb1 he1 hr1 hz1=>?_;refine zr fun r2 w2 hb2 he2 hr2 hz2=>?_;have hb1:Blk w2 r1 (pgV p y) 56:=hb1.ext he2;refine zn 2 p.2.2 hb1 (by rfl) ?_;have hkid:d.2.2.2=p.2.1:=by cases hd<;>rfl
 obtain⟨ks0,hks0,hB,hk64,hk0⟩:∃ ks0:List Nat,ks0=d.2.1++d.2.2.1/\B p.2.2=k8B ks0/\(∀ k∈ks0,k<18446744073709551616)/\ks0.length<=5000:=by
  cases hd with
  |refs ks kids h1 h2 h3 h4=>exact⟨ks,by simp,yW _,h4,hn⟩
  |inner ks kids h1 h2 h3 h4=>exact⟨ks,by simp,yW _,h4,hn⟩
  |leaf k v h1 h2=>exact⟨[k,v],rfl,yW _,fun q hq=>by
    simp only [mem_cons,not_mem_nil,or_false]at hq
    rcases hq with rfl|rfl
    ·exact h1
    ·exact h2,by simp⟩
 refine zb (zhV hB hk64 (by omega)) ?_;rintro _ w3 ⟨A,c,rfl,ho,he3⟩;refine⟨((A,ks0.length,c),true,()),rfl,?_⟩;have hb1:=hb1.ext he3;have hb2:=hb2.ext he3;refine zF ((p.1.toNat:Nat):Int) hb1 (by rfl) ?_;refine zn 1 y hb1 (by rfl) ?_;dsimp only;have hlt1:=hb1.lt;have hlt2:=hb2.lt;have hs2:=he2.size;have hs3:=he3.size;have he:=(he1.trans he2).trans he3;refine refill (vs:=ndV p.1 (A,ks0.length,c) (none,0,0) y) hb2 (by rfl) (jb _ _ _ _) (by rfl) ?_;intro w4 hb2 hx4 hk4 hz4;have he4:Ext w w4:=hx4 w he (by omega);have hb1:Blk w4 r1 (pgV p y) 56:=(hk4 r1 (by omega)).trans hb1;have ho4:Owni (zu .u64) 42 w4 (r2+1) A ks0.length c ks0:=by
  refine(ho.only (F:=fun k=>k=r2) ⟨?_,?_,?_,Nat.le_of_eq hz4.symm,fun k _ hk=>hk4 k hk⟩ (fun j hj e=>by have:=ho.row j hj;have:j=r2:=e;omega)).lower (by omega)
  ·exact(hx4 w he (by omega)).os.trans he.os.symm
  ·exact(hx4 w he (by omega)).tape.trans he.tape.symm
  ·exact(hx4 w he (by omega)).output.trans he.output.symm
 have hs4:=hs.ext he4;have hsn:=hs.len;refine yk (fun(t:Bool×Int×List Deferred×Unit) w'=>∃ (x z:SLC) (m:Nat),t=(true,(m:Int),t.2.2.1,())/\m<=d.2.1.length/\Ext w w'/\Blk w' r2 (ndV d.1 x z y) 215/\zat w' (r2+1) d x z y/\Dfs w.heap.size w' t.2.2.1) ?_ (fun J hJ=>?_);rotate_left
 ·refine zF ((p.1.toNat:Nat):Int) hb1 (by rfl) ?_;cases hd with
  |refs ks kids h1 h2 h3 h4=>
   obtain rfl:ks0=ks:=by rw[hks0];simp
   refine zd (by rfl) (zd (by rfl) (zf (by rfl) (zf (by rfl) ?_)));refine zn 1 y hb1 (by rfl) ?_;refine hJ _ _ ⟨(A,ks0.length,c),(none,0,0),1,?_,h2,he4,hb2,⟨ho4,Owni.nil _ _ _,hs4⟩,trivial⟩;rw[show((((ks0.length:Nat):Int)==((y.2.1:Nat):Int)))=true from beq_iff_eq.2 (by dsimp only at hsn;omega)];rfl
  |inner ks kids h1 h2 h3 h4=>
   obtain rfl:ks0=ks:=by rw[hks0];simp
   refine zd (by rfl) (zf (by rfl) (zf (by rfl) ?_));refine zn 1 y hb1 (by rfl) ?_;refine hJ _ _ ⟨(A,ks0.length,c),(none,0,0),2,?_,h2,he4,hb2,⟨ho4,Owni.nil _ _ _,hs4⟩,trivial⟩;rw[show((((ks0.length:Nat):Int)==((y.2.1:Nat):Int)))=true from beq_iff_eq.2 (by dsimp only at hsn;omega)];rfl
  |leaf k v h1 h2=>
   obtain rfl:ks0=[k,v]:=hks0;refine zf (by rfl) ?_;refine stE (o:=1) hb2 (by rw[zy]) (by show 1<4;omega) ?_;intro w5 hb25 o5;have he5:Ext w w5:=Only.ext he4 o5 (fun j hj=>by have:j=r2:=hj;omega);have hb15:=hb1.only o5 (show ¬r1=r2 by omega);have ho5:=ho4.only o5 (fun j hj e=>by have:=ho4.row j hj;have:j=r2:=e;omega);have hA:=ho5.le;refine zb (zfP (k:=2) (by omega) (show 2<=c from hA.1) (by omega)) ?_;rintro vv w6 ⟨hit,hRc,hs6,he6⟩;refine⟨vv,rfl,?_⟩;dsimp only at hit hRc hb25;have hb26:=hb25.ext he6;have hb16:=hb15.ext he6;have ho6:=ho5.ext he6;have hw5:=he5.size;have hl25:=hb25.lt;have hl15:=hb15.lt;have hAl:∀ j,orow A=some j->j<w5.heap.size:=ho5.yc;have hcn:(qq 1 A 2 2).length=1:=by rw[xF];rfl
   refine zaJ (R:=zbl w5.heap.size (w5.heap.size+1) A 2 c 2) (fun i w'=>Ext w w'/\zbl w5.heap.size (w5.heap.size+1) A 2 c 2 w'/\Sli (zu .u64) w' A 2 [k,v]/\Blk w' r1 (pgV ((4:UInt8),[],mkB (k8B [k,v])) y) 56/\∃ x z:SLC,(i=0->x=(none,0,0)/\z=(none,0,0))/\True/\Blk w' r2 (ndV 4 x z y) 215/\Owni (zu .u64) 42 w' (w6.heap.size+2) x.1 x.2.1 x.2.2 ([k].take i)/\Owni (zu .u64) 42 w' (w6.heap.size+2) z.1 z.2.1 z.2.2 ([v].take i)) hit (fun i w' hI=>hI.2.1) (fun i w' hI=>⟨hI.1.drew,hI.2⟩) ?_ ?_ ?_ ?_
   ·rintro i w' w'' hsb ⟨e1,⟨e2,e3⟩,e4,e5,x,z,x1,z1,e6,e7,e8⟩;have hkeep:∀ j:Nat,j<w6.heap.size->w''.heap[j]?=w'.heap[j]?:=fun j hj=>hsb.2.2.2.2 j (by omega) (by omega);exact⟨e1.qk hsb (by omega) (by omega),⟨(hkeep _ (by omega)).trans e2,(hkeep _ (by omega)).trans e3⟩,e4.congr (fun a ha=>hkeep _ (by have:=hAl a.block (by rw[ha];rfl);omega)),(hkeep _ (by omega)).trans e5,x,z,x1,z1,(hkeep _ (by omega)).trans e6,e7.qk hsb (by omega) (by omega),e8.qk hsb (by omega) (by omega)⟩
   ·intro o;have hx:=((Ext.refl w6).alloc (.deferred (some []))).alloc o;exact⟨(he5.trans he6).trans hx,⟨hRc.1.ext hx,hRc.2.ext hx⟩,ho6.sl.ext hx,hb16.ext hx,(none,0,0),(none,0,0),fun _=>⟨rfl,rfl⟩,trivial,hb26.ext hx,Owni.nil _ _ _,Owni.nil _ _ _⟩
   ·rintro i hi w' N jump ⟨e1,⟨e2,e3⟩,e4,e5,x,z,x1,z1,e6,e7,e8⟩ hsz' hN;have hi:i<1:=by simpa [xF,yt] using hi
    obtain rfl:i=0:=by omega
    obtain⟨rfl,rfl⟩:=x1 rfl;refine⟨((zm A 0 2 1,2,2),()),by simp[qq],?_⟩;dsimp only;have hsub:=e4.cut (l:=0) (k:=2) (m:=2) (z:=1) rfl (by omega) (by omega);rw[List.drop_zero,take_of_length_le (by simp)]at hsub;refine zM fun w7 he7 hz7 hh7=>?_;refine zn 1 ((none,0,0):SLC) (e6.ext he7) (by rfl) ?_;refine zU (hsub.ext he7) (by omega) (by omega) ?_;refine zr fun r20 w8 hb8 he8 hr8 hz8=>?_;have he78:=he7.trans he8;refine xy (yM (e6.ext he78) rfl) ?_;have hx1:Sli (zu .u64) w8 (some ⟨r20,0,none⟩) 1 [k]:=Sli.xC (E:=zu .u64) (xs:=[k]) hb8 rfl (by omega);refine xc kE (Owni.nil 42 w8 (w6.heap.size+2)) (by have:=he78.size;omega) hx1 (by dsimp only;omega) (by omega) ?_;intro A2 c2 w9 ho9 hg9 _;have he9:Ext w' w9:=he78.none hg9.grown;refine stE (o:=1) (e6.ext he9) (by rw[zy]) (by show 1<4;omega) ?_;intro w10 hb10 o10;have hw9:=he9.size;have he10:∀ q,q<=r2->q<w6.heap.size->True:=fun _ _ _=>trivial;have hl26:=hb26.lt;refine zM fun w11 he11 hz11 hh11=>?_;refine zn 2 ((none,0,0):SLC) (hb10.ext he11) (by rfl) ?_;have hsub11:Sli (zu .u64) w11 (zm A 0 2 1) 2 [k,v]:=((hsub.ext he9).only o10 (fun a ha hh=>by
     have h2:orow A=some a.block:=by
      unfold zm at ha
      rw[if_neg (by omega)]at ha
      cases A with
      |none=>cases ha
      |some a0=>injection ha with ha;rw[<- ha];rfl
     have:=ho4.row _ h2
     have:a.block=r2:=hh
     omega)).ext he11
    rw[show wrap .i64 (((2:Nat):Int)-1)=1 from by decide];refine zU hsub11 (by omega) (by omega) ?_;refine zr fun r25 w12 hb12 he12 hr12 hz12=>?_;have he1112:=he11.trans he12;refine xy (yM (hb10.ext he1112) rfl) ?_;have hx2:Sli (zu .u64) w12 (some ⟨r25,0,none⟩) 1 [v]:=Sli.xC (E:=zu .u64) (xs:=[v]) hb12 rfl (by omega);have hs10:=o10.2.2.2.1;have hs1112:=he1112.size;refine xc kE (Owni.nil 42 w12 (w6.heap.size+2)) (by omega) hx2 (by dsimp only;omega) (by omega) ?_;intro A3 c3 w13 ho13 hg13 _;have he13:Ext w10 w13:=he1112.none hg13.grown;refine stE (o:=2) (hb10.ext he13) (by rw[zy]) (by show 2<4;omega) ?_;intro w14 hb14 o14;have hs13:=he13.size;have hs14:=o14.2.2.2.1;have ho9':Owni (zu .u64) 42 w14 (w6.heap.size+2) A2 1 c2 [k]:=((ho9.only o10 (fun j hj e=>by have:=ho9.row j hj;have:j=r2:=e;omega)).ext he13).only o14 (fun j hj e=>by have:=ho9.row j hj;have:j=r2:=e;omega);have ho13':Owni (zu .u64) 42 w14 (w6.heap.size+2) A3 1 c3 [v]:=ho13.only o14 (fun j hj e=>by have:=ho13.row j hj;have:j=r2:=e;omega);have hall:∀ j,j<w'.heap.size->j≠r2->w14.heap[j]?=w'.heap[j]?:=fun j hj hne=>by
     rw[o14.2.2.2.2 j (by omega) hne,he13.block j (by omega),o10.2.2.2.2 j (by omega) hne,he9.block j hj]
    refine hN _ ⟨Only.ext (Only.ext (e1.trans he9) o10 (fun j hj=>by have:j=r2:=hj;omega) |>.trans he13) o14 (fun j hj=>by have:j=r2:=hj;omega),⟨(hall _ (by omega) (by omega)).trans e2,(hall _ (by omega) (by omega)).trans e3⟩,e4.congr (fun a ha=>?_),(hall _ (by omega) (by omega)).trans e5,(A2,1,c2),(A3,1,c3),fun e=>by omega,trivial,hb14,ho9',ho13'⟩ (by omega) (fun q hq=>hall q (by omega) (by omega));have h2:orow A=some a.block:=by rw[ha];rfl
    have h3:=hAl _ h2;have:=ho4.row _ h2;exact hall _ (by omega) (by omega)
   ·rintro w' ⟨e1,⟨e2,e3⟩,e4,e5,x,z,x1,z1,e6,e7,e8⟩ hsz' hd;rw[show(qq 1 A [k,v].length 2).length=1 by simp[xF,yt]]at e7 e8;show(za _ _ _) w';refine zf (by rfl) (zf (show(Int.tmod ((2:Nat):Int) 2==0)=true by decide) ?_);refine zn 1 y e5 (by rfl) ?_;refine hJ _ _ ⟨x,z,1,?_,by simp,e1,e6,⟨e7.lower (B':=r2+1) (by omega),e8.lower (B':=r2+1) (by omega),hs.ext e1⟩,⟨_,rfl,by omega,hd,by simp,trivial⟩⟩;rw[show(((y.2.1:Nat):Int)==0)=true from beq_iff_eq.2 (by have:0=y.2.1:=hsn;omega)];rfl
 rintro t w5 ⟨x,z,m,et,hm,he5,k2,hN,hD⟩;have hrise:xH d.2.1=true:=by
  cases hd with
  |refs ks kids h1 h2 h3 h4=>exact h3
  |inner ks kids h1 h2 h3 h4=>exact h3
  |leaf k v h1 h2=>rfl
 have hxl:=hN.ks.len;rw[et];dsimp only;refine zz (fun t' w'=>∃ i:Nat,1<=i/\i<=d.2.1.length+1/\t'=(true,(i:Int),())/\Ext w w'/\Blk w' r2 (ndV d.1 x z y) 215/\zat w' (r2+1) d x z y/\Dfs w.heap.size w' t.2.2.1) (fun t'=>(d.2.1.length+1-t'.2.1).toNat) ⟨1,by omega,by omega,rfl,he5,k2,hN,hD⟩ ?_;rintro _ w6 ⟨i,hi1,hi,rfl,he6,k2,hN,hD⟩;dsimp only;refine zn 1 x k2 (by rfl) ?_
 by_cases hlt:i<x.2.1
 ·refine zf (decide_eq_true (by omega)) ?_;refine zM fun w7 he7 hz7 hh7=>?_;have k27:=k2.ext he7;refine zf rfl ?_;refine zn 1 x k27 (by rfl) ?_;rw[show wrap .i64 ((i:Int)-1)=((i-1:Nat):Int) by rw[wrap_i64 (by omega) (by omega)];omega];refine zU (hN.ks.sl.ext he7) (by omega) (by omega) ?_;refine zn 1 x k27 (by rfl) ?_;refine zU (hN.ks.sl.ext he7) (by omega) (by omega) ?_;rw[Int.toNat_natCast,Int.toNat_natCast];have:=qH.1 hrise (i-1) (by omega);rw[show i-1+1=i by omega]at this;refine⟨⟨i+1,by omega,by omega,?_,he6.trans he7,k27,⟨hN.ks.ext he7,hN.vs.ext he7,hN.kids.ext he7⟩,hD.kept fun k h1 _=>he7.heap h1⟩,?_⟩
  ·rw[show decide (((d.2.1.getD (i-1) 0:Nat):Int)<((d.2.1.getD i 0:Nat):Int))=true from decide_eq_true (by omega),wrap_i64 (by omega) (by omega)];rfl
  ·rw[wrap_i64 (by omega) (by omega)];omega
 ·refine zd (decide_eq_false (by omega)) ?_;refine zd (by rfl) ?_;refine zn 1 x k2 (by rfl) ?_;refine zd (decide_eq_false (by omega)) ?_;refine zZ (ls:=qS) (ndT d.1 x z y) k2 (by rfl) ?_;refine refill (vs:=ndV d.1 x z y) k2 (by rfl) (jb _ _ _ _) (by rfl) ?_;intro w7 k27 hx7 hk7 hz7;have he7:Ext w w7:=hx7 w he6 (by omega);have o7:Only (fun k=>k=r2) w6 w7:=⟨he7.os.trans he6.os.symm,he7.tape.trans he6.tape.symm,he7.output.trans he6.output.symm,Nat.le_of_eq hz7.symm,fun k _ hk=>hk7 k hk⟩;have hN7:zat w7 (r2+1) d x z y:=⟨hN.ks.only o7 (fun j hj e=>by have:=hN.ks.row j hj;have:j=r2:=e;omega),hN.vs.only o7 (fun j hj e=>by have:=hN.vs.row j hj;have:j=r2:=e;omega),hkid▸hs.ext he7⟩;refine zfm _ w7 (hD.kept fun k h1 _=>by
   by_cases e:k=r2
   ·subst e
    have:=k2
    unfold Blk at this
    rw[h1]at this
    cases this
   ·exact(hk7 k e).trans h1) fun w8 hs8=>?_
  refine zZ (ls:=qS) (ndT d.1 x z y) (k27.zd5 hs8) (by rfl) ?_;refine⟨x,z,rfl,⟨(hN7.ks.sDf hs8).lower (by omega),(hN7.vs.sDf hs8).lower (by omega),hkid▸hs.ext (he7.zd5 hs8)⟩,he7.zd5 hs8⟩
end V
/- Spaces of one's own:contracts,short. -/
namespace V
open Go Go.Proofs Go.RowKit Crc
def At (w0 w:World) (b db:Nat) (S:Spa):Prop:=∃ F,zV w b db S F/\(∀ k,F k->w0.heap.size<=k)/\Ext w0 w
variable {w0 w w':World} {b db:Nat} {S:Spa} {R:List Nat}
theorem zf0 {size blocks:Int} (h:zW size blocks=true):va (zdt size blocks):=⟨zir h,rfl⟩
theorem zkv {w1:World} {d:Dev} {db:Nat} (h:zgC w0 d db w1) (hd:va d) (hpen:d.pen.length<=800000):
  Calls prog 69 #[.pointer (some ⟨db,0,none⟩)] w1 (Ret fun v w'=>((yA d).2≠0/\v=.tuple #[.pointer none,.int .i64 (yA d).2]/\Ext w0 w')\/((yA d).2=0/\∃ b,v=.tuple #[.pointer (some ⟨b,0,none⟩),.int .i64 0]/\At w0 w' b db (ql d))):=by
 obtain⟨F,h1,h2,hx⟩:=h;refine(zgQ h1 hpen).mono (Ret.mono ?_);rintro v w' (⟨q1,rfl,F',q2,q3,q4⟩|⟨q1,b,F',rfl,q2,q3,q4,q5⟩)
 ·exact .inl ⟨q1,rfl,Only.ext hx q4 h2⟩
 ·refine .inr ⟨q1,b,rfl,F',q2,fun k hk=>?_,Only.ext hx q5 h2⟩;rcases q4 k hk with e|e
  ·exact h2 k e
  ·exact Nat.le_trans hx.size e
end V
/- Spaces of one's own,short:Commit,Open,Root,Format of nothing. -/
namespace V
open Go Go.Proofs Go.RowKit Crc
variable {w0 w w':World} {b db:Nat} {S:Spa} {R H:List Nat} {M:Option (List Nat)}
end V
/- Contracts of the package space:Abort,Mark,Back,Done,Gen. -/
namespace V
open Go Go.Proofs Go.RowKit Crc
variable {w w':World} {b db:Nat} {S:Spa} {F Fd:Nat->Prop} {x:SLC} {hb hr nb nr:Nat} {m:MkL}
end V
/- Great spaces:contracts,short,by the blocks that they own. -/
namespace V
open Go Go.Proofs Go.RowKit Crc
variable {w w':World} {b db:Nat} {S:Spa} {F:Nat->Prop} {R H:List Nat} {M:Option (List Nat)}
theorem ziz (h:zV w b db S F):Calls prog 26 #[.pointer (some ⟨b,0,none⟩)] w (Ret fun v w'=>v=.int .i64 (S.zQ:Int)/\Ext w w'):=by
 obtain⟨Fd,x,hb,hr,nb,nr,m,h⟩:=h;exact zc2 h
theorem zmG (h:zV w b db S F) {n:Nat} (hn:n<4294967296):Calls prog 29 #[.pointer (some ⟨b,0,none⟩),.int .u32 (n:Int)] w (Ret fun v w'=>v=.int .i64 ((S.now.getD n 0:Nat):Int)/\w'=w):=by
 obtain⟨Fd,x,hb,hr,nb,nr,m,h⟩:=h;exact zhO h hn
theorem zgU (h:zV w b db S F) {n:Nat} (hn:n<4294967296):Calls prog 88 #[.pointer (some ⟨b,0,none⟩),.int .u32 (n:Int)] w (Ret (zfY w (S.get n))):=by
 obtain⟨Fd,x,hb,hr,nb,nr,m,h⟩:=h;exact ub h hn
def zmH (S S':Spa) (p:Page) (R H:List Nat) (M:Option (List Nat)) (n:Nat) (e:Int):Prop:=
 (e=3/\n=0/\S'=S/\S.room p.2.1.length<(p.2.2.size:Int))\/(e=9/\n=0/\S'=S/\S.zQ<=S.sup.pages.length)\/(e=0/\kZ S S' p n/\Great S' (n::R) H M/\(∀ q∈S'.dev.pen,q∈S.dev.pen\/q.1=(n:Int))/\S.sup.pages.length<S.zQ)
theorem zou {S:Spa} {p:Page} (h:(S.put p).2.2=0):∀ q∈(S.put p).1.dev.pen,q∈S.dev.pen\/q.1=((S.put p).2.1:Int):=by
 revert h
 unfold Spa.put;split
 ·rename_i hq;intro h;exact absurd h hq
 ·split
  ·rename_i _ hq;intro h;exact absurd h hq
  ·split
   ·rename_i _ _ hq;intro h;exact absurd h hq
   ·intro _ q hq
    revert hq
    dsimp only;unfold yp;split
    ·exact fun hq=>.inl hq
    ·unfold Dev.write;split
     ·exact fun hq=>.inl hq
     ·split
      ·exact fun hq=>.inl hq
      ·intro hq;rcases mem_append.1 hq with e|e
       ·exact .inl e
       ·rw[mem_singleton.1 e];exact .inr rfl
theorem zkw (h:zV w b db S F) {p:Page} {A:Option Addr} {n c:Nat} (hg:Great S (p.2.1++R) H M) (hpen:S.dev.pen.length<=900000) (hs:Sli (zu .u32) w A n p.2.1) (hA:∀ a,A=some a->¬F a.block) (ht:3<=p.1.toNat) (hk:(p.2.1.length:Int)<=S.room 0 / 4) (hds:p.2.2.size<=1000000000):
  Calls prog 24 #[.pointer (some ⟨b,0,none⟩),.agg (pgV p (A,n,c)).toArray] w (Ret fun v w'=>∃ (S':Spa) (k:Nat) (e:Int),v=.tuple #[.int .u32 (k:Int),.int .i64 e]/\zmH S S' p R H M k e/\yw w b db F S' w'):=by
 obtain⟨Fd,x,hb,hr,nb,nr,m,h'⟩:=h;have hdim:=hg.good.dims;have hN:=hdim.n;have hsz:=hdim.size;have hroom:=hdim.room;have hku:∀ k∈p.2.1,zE S.sup.pages S.now k=true:=fun k hk=>hg.good.well.root k (mem_append_left _ hk);have hr0:S.room 0=S.sup.size-18:=by unfold Spa.room;rw[hroom,if_neg (by omega)];omega
 refine(zbh h' hg.good.h01 (by have:=hg.good.gen;omega) (by omega) p hs (fun k hk=>by
  have:=hg.good.well.lt (hku k hk)
  omega) hA hds).mono (Ret.mono ?_)
 rintro v w' ⟨rfl,hst⟩;refine⟨(S.put p).1,(S.put p).2.1,(S.put p).2.2,rfl,?_,hst⟩;have c1:¬(p.1.toNat<3\/p.2.1.length>65535\/∃ k∈p.2.1,S.asked k=false):=by
  rintro(e|e|⟨k,hk,e⟩)
  ·omega
  ·omega
  ·rw[(qd hg.good (hku k hk)).1]at e;cases e
 have c2:¬ ∃ k∈p.2.1,S.now.getD k 0=0:=by
  rintro⟨k,hk,e⟩;exact(qd hg.good (hku k hk)).2.1 e
 by_cases hd:(p.2.2.size:Int)<=S.room p.2.1.length
 ·by_cases hf:S.sup.pages.length<S.zQ
  ·obtain⟨g1,g2,g3⟩:=zkt hg ht hk hd hf;exact .inr (.inr ⟨g1,g2,g3,zou g1,hf⟩)
  ·have hE:S.jE p=9:=by
    unfold Spa.jE;rw[if_neg c1,if_neg c2,if_neg (by rintro(e|e)<;>omega),if_pos (by omega)]
   have hP:S.put p=(S,0,9):=by unfold Spa.put;rw[if_pos (by rw[hE];decide),hE]
   rw[hP];exact .inr (.inl ⟨rfl,rfl,rfl,by omega⟩)
 ·have hE:S.jE p=3:=by
   unfold Spa.jE;rw[if_neg c1,if_neg c2,if_pos (.inr (by omega))]
  have hP:S.put p=(S,0,3):=by unfold Spa.put;rw[if_pos (by rw[hE];decide),hE]
  rw[hP];exact .inl ⟨rfl,rfl,rfl,by omega⟩
theorem ziA (h:zV w b db S F) {n:Nat} (hg:Great S (n::R) H M):Calls prog 28 #[.pointer (some ⟨b,0,none⟩),.int .u32 (n:Int)] w (Ret fun v w'=>v=.int .i64 0/\∃ c':List Nat,Great { S with now:=c' } R H M/\yw w b db F { S with now:=c' } w'/\Drp S.asked S.page S.now [n] c' 0/\∀ k,c'.getD k 0<=S.now.getD k 0):=by
 obtain⟨Fd,x,hb,hr,nb,nr,m,h'⟩:=h;obtain⟨c',d1,d2,d3,d4⟩:=zks hg.good;have hu:=hg.good.well.root n (by simp);have hnN:=hg.good.well.lt hu;have hN:=hg.good.dims.n;refine(zed h' (n:=n) (by omega) (c':=c') (e:=0) (fun _=>d1) (fun e=>by rw[(qd hg.good hu).1]at e;cases e)).mono (Ret.mono ?_);rintro v w' ⟨rfl,hS,hO⟩;exact⟨rfl,c',hg.less d2 d4,⟨F,hS.zeU,fun k hk=>.inl hk,hO⟩,d1,d4⟩
theorem zgV (h:zV w b db S F) {n:Nat} (hg:Great S R H M) (hu:zE S.sup.pages S.now n=true) (h6:S.now.getD n 0<65535):
  Calls prog 90 #[.pointer (some ⟨b,0,none⟩),.int .u32 (n:Int)] w (Ret fun v w'=>v=.int .i64 0/\Great { S with now:=S.now.set n (S.now.getD n 0+1) } (n::R) H M/\yw w b db F { S with now:=S.now.set n (S.now.getD n 0+1) } w'):=by
 obtain⟨Fd,x,hb,hr,nb,nr,m,h'⟩:=h;obtain⟨s1,s2,s3⟩:=zjr hg.good hu h6;have hnN:=hg.good.well.lt hu;have hN:=hg.good.dims.n;refine(zc5 h' (n:=n) (by omega)).mono (Ret.mono ?_);rintro v w' ⟨rfl,hS,hO⟩;rw[s1];rw[s3]at s2 hS;exact⟨rfl,hg.more hu s2,F,hS.zeU,fun k hk=>.inl hk,hO⟩
end V
/- Contracts of the package tree:get,look,Check. -/
namespace V
open Go Go.Proofs Go.RowKit Crc
variable {w w':World} {b db:Nat} {S:Spa} {F:Nat->Prop}
theorem uf (h:zV w b db S F) {n:Nat} (hn:n<4294967296) {p:Page} {d:Nd} (hg:S.get n=(p,0)) (hd:xZ p d) (hl:d.2.1.length<=5000):
  Calls prog 166 #[.pointer (some ⟨b,0,none⟩),.int .u32 (n:Int)] w (Ret fun v w'=>∃ x z y,v=.tuple #[.agg (ndV d.1 x z y).toArray,.int .i64 0]/\zat w' w.heap.size d x z y/\(∀ a,y.1=some a->w.heap.size<=a.block/\a.block<w'.heap.size)/\Ext w w'):=by
 apply zlP;unfold S166;refine zr fun r1 w1 hb1 he1 hr1 hz1=>?_;refine zb (zgU (h.ext he1) hn) ?_;rintro _ w2 ⟨y,rfl,ho,he2⟩;rw[hg]at ho ⊢;refine⟨(pgT p y,0,()),rfl,?_⟩;refine yn (vs:=pgV p y) (by rfl) (jU _ _) (fun r3 w3 hb3 he3 hr3=>?_) (by rfl);refine zd (by rfl) ?_;refine zZ (ls:=zeW) (pgT p y) hb3 (by rfl) ?_;have hb1:=(hb1.ext he2).ext he3;have he:=(he1.trans he2).trans he3;have hs1:=he1.size;have hs2:=he2.size;refine zb (zhW (y:=y) hd (ho.sl.ext he3) hl) ?_;rintro _ w4 ⟨x,z,rfl,hN,he4⟩;refine⟨(ndT d.1 x z y,0,()),rfl,?_⟩;have hs3:=he3.size;have hs4:=he4.size;refine refill (vs:=ndV d.1 x z y) (hb1.ext he4) (by rfl) (jb _ _ _ _) (by rfl) ?_;intro w5 hb5 hx5 hk5 hz5;have hlt:=hb5.lt;have he5:Ext w w5:=hx5 w (he.trans he4) (by omega);have heo:=he.trans he4;have o5:Only (fun k=>k=r1) w4 w5:=⟨he5.os.trans heo.os.symm,he5.tape.trans heo.tape.symm,he5.output.trans heo.output.symm,Nat.le_of_eq hz5.symm,fun k _ hk=>hk5 k hk⟩;refine zZ (ls:=qS) (ndT d.1 x z y) hb5 (by rfl) ?_;refine⟨x,z,y,rfl,⟨(hN.ks.only o5 (fun j hj e=>by have:=hN.ks.row j hj;have:j=r1:=e;omega)).lower (by omega),(hN.vs.only o5 (fun j hj e=>by have:=hN.vs.row j hj;have:j=r1:=e;omega)).lower (by omega),?_⟩,(fun a ha=>by have:=ho.row a.block (by rw[ha];rfl);have:=ho.yc a.block (by rw[ha];rfl);omega),he5⟩;refine hN.kids.only o5 (fun a ha e=>?_);have:=ho.row a.block (by rw[ha];rfl);have:a.block=r1:=e;omega
theorem qn {t:UInt8} {x y z:SLC}:Calls prog 167 #[.agg (ndV t x y z).toArray] w (Ret fun v w'=>v=.bool ((t.toNat:Int)==3)/\Ext w w'):=by
 apply zlQ;unfold S167;refine zr fun r1 w1 hb1 he1 hr1 hz1=>?_;exact zF ((t.toNat:Nat):Int) hb1 (by rfl) ⟨rfl,he1⟩
theorem zau {t:UInt8} {x y z:SLC}:Calls prog 203 #[.agg (ndV t x y z).toArray] w (Ret fun v w'=>v=.bool ((t.toNat:Int) !=4)/\Ext w w'):=by
 apply zl7;unfold S203;refine zr fun r1 w1 hb1 he1 hr1 hz1=>?_;exact zF ((t.toNat:Nat):Int) hb1 (by rfl) ⟨rfl,he1⟩
def Nd.val (d:Nd) (i:Nat):Nat:=if d.1=4 then d.2.2.1.getD i 0 else d.2.2.2.getD i 0
theorem zgW {N:Nat} {d:Nd} {x y z:SLC} (h:zat w N d x y z) {i:Nat} (hi:i<if d.1=4 then y.2.1 else z.2.1) (h64:d.val i<18446744073709551616):Calls prog 168 #[.agg (ndV d.1 x y z).toArray,.int .i64 (i:Int)] w (Ret fun v w'=>v=.int .u64 (d.val i:Int)/\Ext w w'):=by
 apply zlR;unfold S168;refine zr fun r1 w1 hb1 he1 hr1 hz1=>?_;have hb1:Blk w1 r1 (ndV d.1 x y z) 215:=hb1;refine zZ (ls:=qS) (ndT d.1 x y z) hb1 (by rfl) ?_;refine zb zau ?_;rintro _ w2 ⟨rfl,he2⟩;refine⟨_,rfl,?_⟩;have he:=he1.trans he2;have hb2:=hb1.ext he2;unfold Nd.val at h64 ⊢
 by_cases hq:d.1=4
 ·rw[if_pos hq]at hi h64 ⊢;refine zd (by rw[hq];rfl) ?_;refine zn 2 y hb2 (by rfl) ?_;have hl:=h.vs.sl.le;refine zU (h.vs.sl.ext he) (by omega) (by omega) ?_;rw[Int.toNat_natCast];exact⟨rfl,he⟩
 ·rw[if_neg hq]at hi h64 ⊢;refine zf (bne_iff_ne.2 (fun e=>hq (UInt8.toNat_inj.1 (by show _=4;omega)))) ?_;refine zn 3 z hb2 (by rfl) ?_;have hl:=h.kids.le;refine zU (h.kids.ext he) (by omega) (by omega) ?_;rw[Int.toNat_natCast,zx h64];exact⟨rfl,he⟩
def shV (n lo hi:Nat) (t:UInt8) (tall:Nat):List Value:=[.int .i64 (n:Int),.int .u64 (lo:Int),.int .u64 (hi:Int),.int .u8 (t.toNat:Int),.int .i64 (tall:Int)]
abbrev zmI:List Lf:=[.int .i64,.int .u64,.int .u64,.int .u8,.int .i64]
def shT (n lo hi:Nat) (t:UInt8) (tall:Nat):Int×Int×Int×Int×Int×Unit:=((n:Int),(lo:Int),(hi:Int),(t.toNat:Int),(tall:Int),())
theorem uo (n lo hi:Nat) (t:UInt8) (tall:Nat):∀ v∈shV n lo hi t tall,v.oneCell'=true:=by
 intro v hv;simp only [shV,mem_cons,not_mem_nil,or_false]at hv;rcases hv with rfl|rfl|rfl|rfl|rfl<;>rfl
theorem zck (h:zV w b db S F) {n deep:Nat} (hn:n<4294967296) {p:Page} {d:Nd} (hg:S.get n=(p,0)) (hd:xZ p d) (h3:d.1≠3) (hl:d.2.1.length<=5000) (hdeep:deep<=16) {st:Bool}:
  Calls prog 124 #[.pointer (some ⟨b,0,none⟩),.int .u32 (n:Int),.int .i64 (deep:Int),.bool st] w (Ret fun v w'=>v=.tuple #[.agg (shV d.2.1.length (d.2.1.getD 0 0) (d.2.1.getD (d.2.1.length-1) 0) d.1 1).toArray,.int .i64 0]/\Ext w w'):=by
 have hne:1<=d.2.1.length:=by
  cases hd with
  |refs ks kids h1 h2 h3 h4=>exact h2
  |inner ks kids h1 h2 h3 h4=>exact Nat.le_of_succ_le h2
  |leaf k v h1 h2=>exact Nat.le_refl _
 apply zgv;unfold S124;refine zr fun r1 w1 hb1 he1 hr1 hz1=>?_;refine zb (uf (h.ext he1) hn hg hd hl) ?_;rintro _ w2 ⟨x,z,y,rfl,hN,_,he2⟩;refine⟨(ndT d.1 x z y,0,()),rfl,?_⟩;refine yn (vs:=ndV d.1 x z y) (by rfl) (jb _ _ _ _) (fun r3 w3 hb3 he3 hr3=>?_) (by rfl);refine zd (by rfl) (zd (decide_eq_false (by omega)) ?_);refine zZ (ls:=qS) (ndT d.1 x z y) hb3 (by rfl) ?_;refine zb qn ?_;rintro _ w4 ⟨rfl,he4⟩;refine⟨_,rfl,?_⟩;refine zf (by rw[beq_eq_false_iff_ne.2 (fun e=>h3 (UInt8.toNat_inj.1 (by show _=3;omega)))];rfl) ?_;refine zM fun w5 he5 hz5 hh5=>?_;have he25:=(he3.trans he4).trans he5;have he:=(he1.trans he2).trans he25;have hb3:=(hb3.ext he4).ext he5;have hk:=hN.ks.sl.ext he25;have hxl:=hk.len;have hxle:=hk.le;refine zn 1 x hb3 (by rfl) (zn 1 x hb3 (by rfl) ?_);refine zU hk (by omega) (by omega) ?_;refine zn 1 x hb3 (by rfl) (zn 1 x hb3 (by rfl) ?_);rw[show wrap .i64 ((x.2.1:Int)-1)=((d.2.1.length-1:Nat):Int) by rw[wrap_i64 (by omega) (by omega)];omega];refine zU hk (by omega) (by omega) ?_;rw[Int.toNat_natCast];refine zF ((d.1.toNat:Nat):Int) hb3 (by rfl) ?_;have hb1:=((hb1.ext he2).ext he25);refine refill (vs:=shV x.2.1 (d.2.1.getD 0 0) (d.2.1.getD (d.2.1.length-1) 0) d.1 1) hb1 (by rfl) (uo _ _ _ _ _) (by rfl) ?_;intro w6 hb6 hx6 hk6 hz6;refine zZ (ls:=zmI) (shT x.2.1 (d.2.1.getD 0 0) (d.2.1.getD (d.2.1.length-1) 0) d.1 1) hb6 (by rfl) ?_;exact⟨by rw[<- hxl];rfl,hx6 w he (by omega)⟩
theorem zmJ (h:zV w b db S F) {n:Nat} (hn:n<4294967296) {p:Page} {kn:Nat->Nat} {kp:Nat->Page} {kd:Nat->Nd} {t:UInt8} (ht:t≠3)
  (hg:S.get n=(p,0)) (hd:xZ p ((3:UInt8),[(kd 0).2.1.getD 0 0,(kd 1).2.1.getD 0 0],[],[kn 0,kn 1]))
  (hk:∀ i,i<2->kn i<4294967296/\S.get (kn i)=(kp i,0)/\xZ (kp i) (kd i)/\(kd i).1=t/\(kd i).2.1.length<=5000)
  (hr:(kd 0).2.1.getD ((kd 0).2.1.length-1) 0<(kd 1).2.1.getD 0 0) {st:Bool}:
  Calls prog 124 #[.pointer (some ⟨b,0,none⟩),.int .u32 (n:Int),.int .i64 1,.bool st] w (Ret fun v w'=>(∃ n lo hi t tl,v=.tuple #[.agg (shV n lo hi t tl).toArray,.int .i64 0])/\Ext w w'):=by
 apply zgv;unfold S124;refine zr fun r1 w1 hb1 he1 hr1 hz1=>?_;refine zb (uf (h.ext he1) hn hg hd (by show 2<=5000;omega)) ?_;rintro _ w2 ⟨x,z,y,rfl,hN,hyr,he2⟩;refine⟨(ndT 3 x z y,0,()),rfl,?_⟩;refine yn (vs:=ndV 3 x z y) (by rfl) (jb _ _ _ _) (fun r3 w3 hb3 he3 hr3=>?_) (by rfl);refine zd (by rfl) (zd (by rfl) ?_);refine zZ (ls:=qS) (ndT 3 x z y) hb3 (by rfl) ?_;refine zb qn ?_;rintro _ w4 ⟨rfl,he4⟩;refine⟨_,rfl,zd (by rfl) ?_⟩;have he34:=he3.trans he4;have hb34:=hb3.ext he4;refine zn 3 y hb34 (by rfl) ?_;have hN3:zat w4 w1.heap.size _ x z y:=⟨hN.ks.ext he34,hN.vs.ext he34,hN.kids.ext he34⟩;have hyl:2=y.2.1:=hN3.kids.len;have hxl:2=x.2.1:=hN3.ks.len;have he04:=(he1.trans he2).trans he34;have hb14:Blk w4 r1 (shV 0 0 0 0 0) 197:=(hb1.ext he2).ext he34;have hl1:=hb14.lt;have hl3:=hb34.lt;have hs2:=he2.size;have hxr:=hN3.ks.row
 -- the worlds of the rounds differ from w4 at r1 alone
 refine zz (fun t' w'=>∃ i:Nat,i<=2/\t'=((i:Int),())/\Ext w w'/\Only (fun k=>k=r1) w4 w'/\∃ c lo hi,Blk w' r1 (if i=0 then shV 0 0 0 0 0 else shV c lo hi t 2) 197/\(i=1->hi=(kd 0).2.1.getD ((kd 0).2.1.length-1) 0)/\c<=5000*i) (fun t'=>(2-t'.1).toNat)
  ⟨0,by omega,rfl,he04,Only.refl _ _,0,0,0,hb14,by simp,by omega⟩ ?_
 rintro _ w5 ⟨i,hi2,rfl,he5,o5,c,lo,hi,b5,hhi,hc⟩;dsimp only;have hb5:=hb34.only o5 (by omega)
 by_cases hlt:i<2
 ·refine zf (decide_eq_true (by omega)) ?_;refine yk (fun(_:Unit) w'=>Ext w w'/\Only (fun k=>k=r1) w4 w'/\∃ c lo hi,Blk w' r1 (shV c lo hi t 2) 197/\(i=0->hi=(kd 0).2.1.getD ((kd 0).2.1.length-1) 0)/\c<=5000*(i+1)) ?_ (fun J hJ=>?_)
  ·rintro _ w6 ⟨g1,g2,c',lo',hi',g3,g4,g5⟩;exact⟨⟨i+1,by omega,by rw[wrap_i64 (by omega) (by omega)];rfl,g1,g2,c',lo',hi',by rw[if_neg (by omega)];exact g3,fun e=>g4 (by omega),g5⟩,by rw[wrap_i64 (by omega) (by omega)];omega⟩
  have hkid5:=hN3.kids.only o5 (fun a ha e=>by have:=(hyr a ha).1;have:a.block=r1:=e;omega);refine zU hkid5 (by omega) (by omega) ?_;rw[Int.toNat_natCast];obtain⟨k1,k2,k3,k4,k5⟩:=hk i hlt;have ek:([kn 0,kn 1]:List Nat).getD i 0=kn i:=by
   rcases (show i=0\/i=1 by omega) with rfl|rfl<;>rfl
  have ekk:([(kd 0).2.1.getD 0 0,(kd 1).2.1.getD 0 0]:List Nat).getD i 0=(kd i).2.1.getD 0 0:=by
   rcases (show i=0\/i=1 by omega) with rfl|rfl<;>rfl
  rw[show([kn 0,kn 1]:List Nat).getD i 0=kn i from ek];rw[show wrap .i64 (1+1)=((2:Nat):Int) by decide];refine zb (zck (h.ext he5) k1 k2 k3 (by rw[k4];exact ht) k5 (deep:=2) (by omega)) ?_;rintro _ w6 ⟨rfl,he6⟩;refine⟨(shT (kd i).2.1.length ((kd i).2.1.getD 0 0) ((kd i).2.1.getD ((kd i).2.1.length-1) 0) (kd i).1 1,0,()),rfl,?_⟩;refine yn (vs:=shV (kd i).2.1.length ((kd i).2.1.getD 0 0) ((kd i).2.1.getD ((kd i).2.1.length-1) 0) (kd i).1 1) (by rfl) (uo _ _ _ _ _) (fun r28 w7 hb7 he7 hr7=>?_) (by rfl);refine zd (by rfl) ?_;rw[k4]at hb7;have he57:=he6.trans he7;have b7:=b5.ext he57;have h37:=hb5.ext he57;have hk7:=(hN3.ks.only o5 (fun j hj e=>by have:=hxr j hj;have:j=r1:=e;omega)).ext he57;have hs5:=o5.2.2.2.1;have hs6:=he6.size;refine yk (fun(y':Bool×Unit) w'=>y'=(false,())/\∃ _:w7.heap.size<=w'.heap.size,Ext w7 w') ?_ (fun J31 hJ31=>?_);rotate_left
  ·refine zM fun w8 he8 hz8 hh8=>?_;have hb8:=hb7.ext he8;have b8:=b7.ext he8;refine zn 1 (((kd i).2.1.getD 0 0:Nat):Int) hb8 (by rfl) ?_;refine zn 1 x (h37.ext he8) (by rfl) ?_;refine zU (hk7.sl.ext he8) (by omega) (by omega) ?_;rw[Int.toNat_natCast,ekk];refine zd (by simp) ?_;have hfin:=hJ31 (false,()) w8 ⟨rfl,by omega,he8⟩
   by_cases h0:i=0
   ·exact zd (decide_eq_false (by omega)) hfin
   ·obtain rfl:i=1:=by omega
    refine zf (by rfl) ?_;have b8:Blk w8 r1 (shV c lo hi t 2) 197:=b8;refine zn 2 ((hi:Nat):Int) b8 (by rfl) ?_;refine zn 1 (((kd 1).2.1.getD 0 0:Nat):Int) hb8 (by rfl) ?_;refine zd (decide_eq_false (by rw[hhi rfl];omega)) ?_;refine zn 3 ((t.toNat:Nat):Int) b8 (by rfl) ?_;refine zn 3 ((t.toNat:Nat):Int) hb8 (by rfl) ?_;refine zd (by simp) ?_;refine zn 4 ((2:Nat):Int) b8 (by rfl) ?_;refine zn 4 ((1:Nat):Int) hb8 (by rfl) ?_;exact hfin
  ·rintro _ w8 ⟨rfl,hs8,he8⟩;refine yk (fun(_:Unit) w'=>w'=w8) ?_ (fun J43 hJ43=>by
    refine zg (fun _=>zd (by rfl) (hJ43 _ _ rfl)) (fun _=>hJ43 _ _ rfl))
   rintro _ w9 rfl;have hb9:=hb7.ext he8;have b9:=b7.ext he8;have hl9:=b9.lt;refine yk (fun(_:Unit) w'=>Only (fun k=>k=r1) w9 w'/\∃ lo',Blk w' r1 (if i=0 then shV 0 lo' 0 0 0 else shV c lo' hi t 2) 197) ?_ (fun J47 hJ47=>?_);rotate_left
   ·refine zg (fun hq=>?_) (fun hq=>hJ47 _ _ ⟨Only.refl _ _,lo,?_⟩)
    ·have hq:(i:Int)=0:=beq_iff_eq.1 hq;obtain rfl:i=0:=by omega
     refine zn 1 (((kd 0).2.1.getD 0 0:Nat):Int) hb9 (by rfl) ?_;refine stE (o:=1) b9 (by rw[zy]) (by show 1<5;omega) ?_;intro w10 b10 o10;exact hJ47 _ _ ⟨o10,_,b10⟩
    ·have hq:¬(i:Int)=0:=beq_eq_false_iff_ne.1 hq;rw[if_neg (by omega)]at b9 ⊢;exact b9
   rintro _ w10 ⟨o10,lo',b10⟩;have hl28:=hb9.lt;have hb10:=hb9.only o10 (by omega);have e0:∃ c0 lo0 hi0 t0 tl0,c0<=5000*i/\Blk w10 r1 (shV c0 lo0 hi0 t0 tl0) 197:=by
    split at b10
    ·exact⟨_,_,_,_,_,by omega,b10⟩
    ·exact⟨_,_,_,_,_,hc,b10⟩
   obtain⟨c0,lo0,hi0,t0,tl0,hc0,b10⟩:=e0;refine zF ((c0:Nat):Int) b10 (by rfl) ?_;refine zF (((kd i).2.1.length:Nat):Int) hb10 (by rfl) ?_;refine zn 1 ((lo0:Nat):Int) b10 (by rfl) ?_;refine zn 2 (((kd i).2.1.getD ((kd i).2.1.length-1) 0:Nat):Int) hb10 (by rfl) ?_;refine zn 3 ((t.toNat:Nat):Int) hb10 (by rfl) ?_;refine zn 4 ((1:Nat):Int) hb10 (by rfl) ?_;rw[show wrap .i64 ((c0:Int)+((kd i).2.1.length:Int))=((c0+(kd i).2.1.length:Nat):Int) by rw[wrap_i64 (by omega) (by omega)];rfl,show wrap .i64 (((1:Nat):Int)+1)=((2:Nat):Int) by decide];refine zot (o:=0) (vs:=shV (c0+(kd i).2.1.length) lo0 ((kd i).2.1.getD ((kd i).2.1.length-1) 0) t 2) b10 (by rfl) (by show 0+5<=5;omega) (uo _ _ _ _ _) (by rfl) ?_;intro w11 b11 o11;have b11:Blk w11 r1 (shV (c0+(kd i).2.1.length) lo0 ((kd i).2.1.getD ((kd i).2.1.length-1) 0) t 2) 197:=b11;have oo:Only (fun k=>k=r1) w5 w11:=Only.trans (Only.trans (Only.zB (he57.trans he8)) o10 (fun j hj=>.inl hj)) o11 (fun j hj=>.inl hj);refine hJ _ _ ⟨Only.ext he5 oo (fun j hj=>by have:j=r1:=hj;omega),Only.trans o5 oo (fun j hj=>.inl hj),_,_,_,b11,fun e=>by subst e;rfl,by omega⟩
 ·obtain rfl:i=2:=by omega
  refine zd (decide_eq_false (by omega)) ?_;have b5:Blk w5 r1 (shV c lo hi t 2) 197:=b5;refine zZ (ls:=zmI) (shT c lo hi t 2) b5 (by rfl) ?_;refine refill (vs:=shV c lo hi t 2) b5 (by rfl) (uo _ _ _ _ _) (by rfl) ?_;intro w6 hb6 hx6 hk6 hz6;refine zZ (ls:=zmI) (shT c lo hi t 2) hb6 (by rfl) ?_;exact⟨⟨_,_,_,_,_,rfl⟩,hx6 w he5 (by omega)⟩
end V
/- Contracts of the package tree:Check,walk,Each. -/
namespace V
open Go Go.Proofs Go.RowKit Crc
variable {w w':World} {b db:Nat} {S:Spa} {F:Nat->Prop} {R:List Nat}
theorem Owni.cong {α:Type} {E:Enc α} {e:TypeId} {w w':World} {B:Nat} {A:Option Addr} {n c:Nat} {xs:List α} (h:Owni E e w B A n c xs) (hs:∀ j,orow A=some j->w'.heap[j]?=w.heap[j]?):Owni E e w' B A n c xs:=by
 refine⟨h.1,?_⟩;rcases h.2 with hn|⟨g,cap,cur,hv,hb,hgg,rest⟩
 ·exact .inl hn
 ·have hA:orow A=some g:=by
   injection hv with hv
   rw[hv];rfl
  exact .inr ⟨g,cap,cur,hv,hb,(hs g hA).trans hgg,rest⟩
theorem jn.get {n:Nat} {ks vs:List Nat} (h:jn S n ks vs) (hg:Good S R) (hu:zE S.sup.pages S.now n=true):S.get n=(((5:UInt8),vs,mkB (k8B ks)),0)/\xZ ((5:UInt8),vs,mkB (k8B ks)) ((5:UInt8),ks,[],vs)/\n<4294967296:=by
 have h1:=h.ok;rw[h.1]at h1;refine⟨(hg.get hu).1.trans h.1,h1,?_⟩;have:=hg.well.lt hu;have:=hg.dims.n;omega
theorem getD_take {l:List Nat} {m i:Nat} (h:i<m):(l.take m).getD i 0=l.getD i 0:=by
 rw[getD_eq_getElem?_getD,List.getElem?_take,if_pos h,<- getD_eq_getElem?_getD]
theorem vS {l:List Nat} {m i:Nat}:(l.drop m).getD i 0=l.getD (m+i) 0:=by
 rw[getD_eq_getElem?_getD,List.getElem?_drop,<- getD_eq_getElem?_getD]
def kdT (ks vs:List Nat) (m:Nat) (i:Nat):Nd:=if i=0 then ((5:UInt8),ks.take m,[],vs.take m) else ((5:UInt8),ks.drop m,[],vs.drop m)
theorem zgX (h:zV w b db S F) (hg:Good S R) {n:Nat} {ks vs:List Nat} (ht:vb S n ks vs) (hu:zE S.sup.pages S.now n=true) (hl:ks.length<=5000):
  Calls prog 79 #[.pointer (some ⟨b,0,none⟩),.int .u32 (n:Int)] w (Ret fun v w'=>v=.int .i64 0/\Ext w w'):=by
 have hn2:=(zI.1 hu).1;have hn32:n<4294967296:=by
  have:=hg.well.lt hu;have:=hg.dims.n;omega
 have hlook:Calls prog 124 #[.pointer (some ⟨b,0,none⟩),.int .u32 (n:Int),.int .i64 1,.bool true] w (Ret fun v w'=>(∃ n lo hi t tl,v=.tuple #[.agg (shV n lo hi t tl).toArray,.int .i64 0])/\Ext w w'):=by
  cases ht with
  |one hA=>
   obtain⟨g1,g2,g3⟩:=hA.get hg hu;refine(zck h hn32 g1 g2 (by show(5:UInt8)≠3;decide) hl (deep:=1) (by omega)).mono (Ret.mono ?_);rintro v w' ⟨rfl,he⟩;exact⟨⟨_,_,_,_,_,rfl⟩,he⟩
  |two m a c h1 h2 h3 h4 h5 h6 h7 h8=>
   have hkid:z6 S.page n=[a,c]:=by unfold z6;rw[h6]
   have hua:=((hg.well.good n hu).2 a (by rw[hkid];simp));have huc:=((hg.well.good n hu).2 c (by rw[hkid];simp));obtain⟨a1,a2,a3⟩:=h7.get hg hua;obtain⟨c1,c2,c3⟩:=h8.get hg huc;have e0:(ks.take m).getD 0 0=ks.getD 0 0:=getD_take (by omega);have e1:(ks.drop m).getD 0 0=ks.getD m 0:=vS;have htl:(ks.take m).length=m:=by rw[length_take];omega
   have hdl:(ks.drop m).length=ks.length-m:=length_drop;have hin:xZ (S.page n).1 ((3:UInt8),[ks.getD 0 0,ks.getD m 0],[],[a,c]):=by
    rw[h6];refine xZ.inner _ _ rfl (by simp) ?_ ?_
    ·have:=zcj h4 (m-1) 0 (by omega);rw[show 0+(m-1)+1=m by omega]at this;show(decide (ks.getD 0 0<ks.getD m 0)&&true)=true;rw[decide_eq_true this];rfl
    ·intro q hq;simp only [mem_cons,not_mem_nil,or_false]at hq;have hm:∀ i,i<ks.length->ks.getD i 0<18446744073709551616:=fun i hi=>by
      rw[getD_eq_getElem?_getD,List.getElem?_eq_getElem hi];exact h5 _ (getElem_mem _)
     rcases hq with rfl|rfl
     ·exact hm _ (by omega)
     ·exact hm _ h2
   refine zmJ (t:=5) (kn:=fun i=>if i=0 then a else c) (kd:=kdT ks vs m) (kp:=fun i=>if i=0 then ((5:UInt8),vs.take m,mkB (k8B (ks.take m))) else ((5:UInt8),vs.drop m,mkB (k8B (ks.drop m)))) h hn32 (by decide) ((hg.get hu).1.trans (Prod.ext rfl (hg.get hu).2)) (p:=(S.page n).1) ?_ (fun i hi=>?_) ?_
   ·show xZ _ ((3:UInt8),[(ks.take m).getD 0 0,(ks.drop m).getD 0 0],[],[a,c]);rw[e0,e1];exact hin
   ·rcases (show i=0\/i=1 by omega) with rfl|rfl
    ·exact⟨a3,a1,a2,rfl,by show(ks.take m).length<=5000;omega⟩
    ·exact⟨c3,c1,c2,rfl,by show(ks.drop m).length<=5000;omega⟩
   ·show(ks.take m).getD ((ks.take m).length-1) 0<(ks.drop m).getD 0 0;rw[htl,e1,getD_take (by omega)];have:=qH.1 h4 (m-1) (by omega);rw[show m-1+1=m by omega]at this;exact this
 apply zio;unfold S79;refine zd (by rfl) (zd (beq_eq_false_iff_ne.2 (by omega)) ?_);refine zb hlook ?_;rintro _ w1 ⟨⟨n',lo,hi,t,tl,rfl⟩,he1⟩;refine⟨(shT n' lo hi t tl,0,()),rfl,?_⟩;refine yn (vs:=shV n' lo hi t tl) (by rfl) (uo _ _ _ _ _) (fun r2 w2 hb2 he2 hr2=>?_) (by rfl);exact⟨rfl,he1.trans he2⟩
def Yld (P:Program) (l:Nat) (L:List (List Value)) (R:WP) (J:(Nat->Prop)->Nat->WP) (E:(Nat->Prop)->WP):Prop:=
 ∀ (V:Nat->Prop) i w' (h:i<L.length),J V i w'->(∀ k,V k->k<w'.heap.size)->jo P l L[i] w' fun v w''=>w'.heap.size<=w''.heap.size/\(∀ k,V k->w''.heap[k]?=w'.heap[k]?)/\((v=.bool true/\R w''/\J V (i+1) w'')\/(v=.bool false/\E V w''))
def Stay (R:WP) (J:(Nat->Prop)->Nat->WP):Prop:=∀ (V V':Nat->Prop) i w' w'',J V i w'->Only V w' w''->(∀ k,V' k->V k\/w'.heap.size<=k)->R w''->J V' i w''
def zcl (k v:Nat):List Value:=[.int .u64 (k:Int),.int .u64 (v:Int)]
def zcI (w:World) (V:Nat->Prop) (J:(Nat->Prop)->Nat->WP) (E:(Nat->Prop)->WP) (i:Nat) (v:Value) (w':World):Prop:=
 ∃ V':Nat->Prop,(∀ k,V' k->V k\/w.heap.size<=k)/\(∀ k,V k->V' k)/\(∀ k,V' k->k<w'.heap.size)/\(∀ k,V k->w'.heap[k]?=w.heap[k]?)/\w.heap.size<=w'.heap.size/\((v=.bool true/\J V' i w')\/(v=.bool false/\E V' w'))
theorem zpt {l:Nat} {L:List (List Value)} {R:WP} {J:(Nat->Prop)->Nat->WP} {E:(Nat->Prop)->WP} (hY:Yld prog l L R J E) {V:Nat->Prop} {i k v:Nat} {w2:World} {K:Bool->WP} (hJ:J V i w2) (hV:∀ q,V q->q<w2.heap.size) (hL:L[i]?=some (zcl k v))
  (hK1:∀ w3,w2.heap.size<=w3.heap.size->(∀ k,V k->w3.heap[k]?=w2.heap[k]?)->R w3->J V (i+1) w3->K true w3) (hK2:∀ w3,w2.heap.size<=w3.heap.size->(∀ k,V k->w3.heap[k]?=w2.heap[k]?)->E V w3->K false w3):
  yF prog (.func (.yield l) #[] #[]) [.int .u64 (k:Int),.int .u64 (v:Int)] (.one (.one .bool)) K w2:=by
 obtain⟨hi,hL⟩:=List.getElem?_eq_some_iff.1 hL;refine .inr ⟨l,rfl,?_⟩;have hy:=hY V i w2 hi hJ hV;rw[hL]at hy;obtain⟨fn,tmps,asg,bd,hy1,hy2⟩:=hy;refine⟨fn,tmps,asg,bd,hy1,RoundIn.mono hy2 ?_⟩;rintro(v|cc|_) w6 hvv
 ·obtain⟨a1,a2,⟨rfl,a3,a4⟩|⟨rfl,a3⟩⟩:=hvv
  ·exact⟨true,rfl,hK1 w6 a1 a2 a3 a4⟩
  ·exact⟨false,rfl,hK2 w6 a1 a2 a3⟩
 ·exact hvv
 ·exact hvv
theorem zfv {l:Nat} {L:List (List Value)} {J:(Nat->Prop)->Nat->WP} {E:(Nat->Prop)->WP} {V:Nat->Prop} (hY:Yld prog l L (fun w=>zV w b db S F) J E) (hS:Stay (fun w=>zV w b db S F) J) (hR:∀ V i w',J V i w'->zV w' b db S F)
  {n deep i0:Nat} (hn:n<4294967296) {p:Page} {d:Nd} (hg:S.get n=(p,0)) (hd:xZ p d) (h3:d.1≠3) (hl:d.2.1.length<=5000) (hv:∀ i,d.val i<18446744073709551616) (hdeep:deep<=16)
  (hL:∀ j,j<d.2.1.length->L[i0+j]?=some (zcl (d.2.1.getD j 0) (d.val j))) (hJ:J V i0 w) (hV:∀ k,V k->k<w.heap.size):
  Calls prog 126 #[.pointer (some ⟨b,0,none⟩),.int .u32 (n:Int),.int .u64 0,.int .i64 (deep:Int),.func (.yield l) #[] #[]] w (Ret (zcI w V J E (i0+d.2.1.length))):=by
 have h:=hR _ _ _ hJ;apply zgw;unfold S126;refine zb (uf h hn hg hd hl) ?_;rintro _ w1 ⟨x,z,y,rfl,hN,hyr,he1⟩;refine⟨(ndT d.1 x z y,0,()),rfl,?_⟩;refine yn (vs:=ndV d.1 x z y) (by rfl) (jb _ _ _ _) (fun r2 w2 hb2 he2 hr2=>?_) (by rfl);refine zd (by rfl) (zd (decide_eq_false (by omega)) ?_);refine zn 1 x hb2 (by rfl) ?_;have he:=he1.trans he2;have hs1:=he1.size;have hs2:=he2.size;have hl2:=hb2.lt;have hN2:zat w2 w.heap.size d x z y:=⟨hN.ks.ext he2,hN.vs.ext he2,hN.kids.ext he2⟩;have hxl:=hN2.ks.len;have hxle:=hN2.ks.sl.le;have hlen:∀ i,i<d.2.1.length->i<if d.1=4 then z.2.1 else y.2.1:=fun i hi=>by
  have a1:=hN2.vs.len;have a2:=hN2.kids.len;cases hd with
  |refs ks kids h1 h2 h3 h4=>rw[if_neg (show ¬(5:UInt8)=4 by decide)];dsimp only at a2 hi;omega
  |inner ks kids h1 h2 h3 h4=>exact absurd rfl h3
  |leaf k v h1 h2=>rw[if_pos rfl];dsimp only at a1 hi;rw[<- a1];exact hi
 let V1:Nat->Prop:=fun q=>V q\/(w.heap.size<=q/\q<w2.heap.size)
 have hV1:∀ q,V1 q->q<w2.heap.size:=fun q hq=>by
  rcases hq with e|e
  ·have:=hV q e;omega
  ·exact e.2
 have hVn:∀ q,V1 q->V q\/w.heap.size<=q:=fun q hq=>hq.imp id (fun e=>e.1);have hJ2:J V1 i0 w2:=hS _ _ _ _ _ hJ (Only.zB he) hVn (h.ext he);refine zz (fun t w'=>∃ i:Nat,i<=d.2.1.length/\t=((i:Int),())/\J V1 (i0+i) w'/\(∀ q,V1 q->w'.heap[q]?=w2.heap[q]?)/\w2.heap.size<=w'.heap.size) (fun t=>(d.2.1.length-t.1).toNat) ⟨0,by omega,rfl,hJ2,fun _ _=>rfl,Nat.le_refl _⟩ ?_;rintro _ w3 ⟨i,hi,rfl,hJ3,hkp,hs3⟩;dsimp only;have fin:∀ {w4:World} {r:Bool},w3.heap.size<=w4.heap.size->(∀ q,V1 q->w4.heap[q]?=w2.heap[q]?)->((r=true/\J V1 (i0+d.2.1.length) w4)\/(r=false/\E V1 w4))->zcI w V J E (i0+d.2.1.length) (.bool r) w4:=by
  intro w4 r a1 a2 a3;refine⟨V1,hVn,fun k hk=>.inl hk,fun k hk=>by have:=hV1 k hk;omega,fun k hk=>(a2 k (.inl hk)).trans (he.block k (hV k hk)),by omega,?_⟩;rcases a3 with ⟨rfl,a3⟩|⟨rfl,a3⟩
  ·exact .inl ⟨rfl,a3⟩
  ·exact .inr ⟨rfl,a3⟩
 by_cases hlt:i<d.2.1.length
 ·refine zf (decide_eq_true (by omega)) ?_;have hb3:Blk w3 r2 (ndV d.1 x z y) 215:=(hkp r2 (.inr ⟨by omega,hl2⟩)).trans hb2;have hin:∀ q,w.heap.size<=q->q<w2.heap.size->w3.heap[q]?=w2.heap[q]?:=fun q h1 h2=>hkp q (.inr ⟨h1,h2⟩);have hk3:Sli (zu .u64) w3 x.1 x.2.1 d.2.1:=hN2.ks.sl.congr (fun a ha=>hin _ (hN2.ks.row _ (by rw[ha];rfl)) (hN2.ks.yc _ (by rw[ha];rfl)));refine zZ (ls:=qS) (ndT d.1 x z y) hb3 (by rfl) ?_;refine zb qn ?_;rintro _ w4 ⟨rfl,he4⟩;refine⟨_,rfl,?_⟩;refine zf (by rw[beq_eq_false_iff_ne.2 (fun e=>h3 (UInt8.toNat_inj.1 (by show _=3;omega)))];rfl) ?_;refine zM fun w5 he5 hz5 hh5=>?_;have he35:=he4.trans he5;have hb5:=hb3.ext he35;have hk5:=hk3.ext he35;refine zn 1 x hb5 (by rfl) ?_;refine zU hk5 (by omega) (by omega) ?_;refine zf (decide_eq_true (by omega)) ?_;refine zn 1 x hb5 (by rfl) ?_;refine zK ⟨by omega,by omega⟩ ?_;have ek:d.2.1[i]?=some (d.2.1.getD i 0):=by rw[getD_eq_getElem?_getD,List.getElem?_eq_getElem hlt];rfl
  obtain⟨a,ha,hsp,hcell⟩:=hk5.at_ ek;refine⟨a,ha,?_⟩;rw[Int.toNat_natCast];have hc0:w5.cell? (a.add (i*1))=some (.int .u64 ((d.2.1.getD i 0:Nat):Int)):=by
   have:=hcell.1;rw[add_zero]at this;exact this
  refine za8 (l:=.int .u64) (x:=((d.2.1.getD i 0:Nat):Int)) (by exact hc0) ?_;refine zZ (ls:=qS) (ndT d.1 x z y) hb5 (by rfl) ?_;have hN5:zat w5 w.heap.size d x z y:=by
   refine⟨(hN2.ks.cong (fun j hj=>hin _ (hN2.ks.row _ hj) (hN2.ks.yc _ hj))).ext he35,(hN2.vs.cong (fun j hj=>hin _ (hN2.vs.row _ hj) (hN2.vs.yc _ hj))).ext he35,(hN2.kids.congr (fun a ha=>?_)).ext he35⟩;have:=hyr a ha;exact hin _ this.1 (by omega)
  refine zb (zgW hN5 (hlen i hlt) (hv i)) ?_;rintro _ w6 ⟨rfl,he6⟩;refine⟨_,rfl,?_⟩;have he36:=he35.trans he6;have hs6:=he36.size;refine js (fun p hp=>by rw[mem_singleton.1 hp];exact he6.cell hc0) (yM (hb5.ext he6) rfl) ?_;have hJ6:J V1 (i0+i) w6:=hS _ _ _ _ _ hJ3 (Only.zB he36) (fun k hk=>.inl hk) ((hR _ _ _ hJ3).ext he36);have hkp6:∀ q,V1 q->w6.heap[q]?=w2.heap[q]?:=fun q hq=>(he36.block q (by have:=hV1 q hq;omega)).trans (hkp q hq);refine zpt hY hJ6 (fun q hq=>by have:=hV1 q hq;omega) (hL i hlt) (fun w7 a1 a2 a3 a4=>?_) (fun w7 a1 a2 a3=>?_)
  ·refine zd (by rfl) ?_;exact⟨⟨i+1,by omega,by rw[wrap_i64 (by omega) (by omega)];rfl,a4,fun q hq=>(a2 q hq).trans (hkp6 q hq),by omega⟩,by rw[wrap_i64 (by omega) (by omega)];omega⟩
  ·refine zf (by rfl) ?_;exact fin (by omega) (fun q hq=>(a2 q hq).trans (hkp6 q hq)) (.inr ⟨rfl,a3⟩)
 ·obtain rfl:i=d.2.1.length:=by omega
  refine zd (decide_eq_false (by omega)) ?_;exact fin (Nat.le_refl _) hkp (.inl ⟨rfl,hJ3⟩)
theorem zmK {l:Nat} {L:List (List Value)} {J:(Nat->Prop)->Nat->WP} {E:(Nat->Prop)->WP} {V:Nat->Prop} (hY:Yld prog l L (fun w=>zV w b db S F) J E) (hS:Stay (fun w=>zV w b db S F) J) (hR:∀ V i w',J V i w'->zV w' b db S F)
  {n:Nat} (hn:n<4294967296) {p:Page} {kn:Nat->Nat} {kp:Nat->Page} {kd:Nat->Nd} {t:UInt8} (ht:t≠3)
  (hg:S.get n=(p,0)) (hd:xZ p ((3:UInt8),[(kd 0).2.1.getD 0 0,(kd 1).2.1.getD 0 0],[],[kn 0,kn 1]))
  (hk:∀ i,i<2->kn i<4294967296/\S.get (kn i)=(kp i,0)/\xZ (kp i) (kd i)/\(kd i).1=t/\(kd i).2.1.length<=5000/\∀ j,(kd i).val j<18446744073709551616)
  (hr:0<(kd 1).2.1.getD 0 0)
  (hL:∀ i j,i<2->j<(kd i).2.1.length->L[(if i=0 then 0 else (kd 0).2.1.length)+j]?=some (zcl ((kd i).2.1.getD j 0) ((kd i).val j))) (hJ:J V 0 w) (hV:∀ k,V k->k<w.heap.size):
  Calls prog 126 #[.pointer (some ⟨b,0,none⟩),.int .u32 (n:Int),.int .u64 0,.int .i64 1,.func (.yield l) #[] #[]] w (Ret (zcI w V J E ((kd 0).2.1.length+(kd 1).2.1.length))):=by
 have h:=hR _ _ _ hJ;apply zgw;unfold S126;refine zb (uf h hn hg hd (by show 2<=5000;omega)) ?_;rintro _ w1 ⟨x,z,y,rfl,hN,hyr,he1⟩;refine⟨(ndT 3 x z y,0,()),rfl,?_⟩;refine yn (vs:=ndV 3 x z y) (by rfl) (jb _ _ _ _) (fun r2 w2 hb2 he2 hr2=>?_) (by rfl);refine zd (by rfl) (zd (by rfl) ?_);refine zn 1 x hb2 (by rfl) ?_;have he:=he1.trans he2;have hs1:=he1.size;have hs2:=he2.size;have hl2:=hb2.lt;have hN2:zat w2 w.heap.size _ x z y:=⟨hN.ks.ext he2,hN.vs.ext he2,hN.kids.ext he2⟩;have hyl:2=y.2.1:=hN2.kids.len;have hxl:2=x.2.1:=hN2.ks.len
 let V1:Nat->Prop:=fun q=>V q\/(w.heap.size<=q/\q<w2.heap.size)
 have hV1:∀ q,V1 q->q<w2.heap.size:=fun q hq=>by
  rcases hq with e|e
  ·have:=hV q e;omega
  ·exact e.2
 have hVn:∀ q,V1 q->V q\/w.heap.size<=q:=fun q hq=>hq.imp id (fun e=>e.1);have hJ2:J V1 0 w2:=hS _ _ _ _ _ hJ (Only.zB he) hVn (h.ext he)
 let at_:Nat->Nat:=fun i=>if i=0 then 0 else if i=1 then (kd 0).2.1.length else (kd 0).2.1.length+(kd 1).2.1.length
 refine zz (fun t w'=>∃ (i:Nat) (Vi:Nat->Prop),i<=2/\t=((i:Int),())/\J Vi (at_ i) w'/\(∀ q,V1 q->Vi q)/\(∀ q,Vi q->V1 q\/w2.heap.size<=q)/\(∀ q,Vi q->q<w'.heap.size)/\(∀ q,V1 q->w'.heap[q]?=w2.heap[q]?)/\w2.heap.size<=w'.heap.size) (fun t=>(2-t.1).toNat) ⟨0,V1,by omega,rfl,hJ2,fun _ h=>h,fun _ h=>.inl h,hV1,fun _ _=>rfl,Nat.le_refl _⟩ ?_;rintro _ w3 ⟨i,Vi,hi,rfl,hJ3,hv1,hv2,hv3,hkp,hs3⟩;dsimp only;have fin:∀ {w4:World} {r:Bool} {Vj:Nat->Prop},w3.heap.size<=w4.heap.size->(∀ q,V1 q->Vj q)->(∀ q,Vj q->V1 q\/w2.heap.size<=q)->(∀ q,Vj q->q<w4.heap.size)->(∀ q,V1 q->w4.heap[q]?=w2.heap[q]?)->((r=true/\J Vj ((kd 0).2.1.length+(kd 1).2.1.length) w4)\/(r=false/\E Vj w4))->zcI w V J E ((kd 0).2.1.length+(kd 1).2.1.length) (.bool r) w4:=by
  intro w4 r Vj a1 b1 b2 b3 a2 a3;refine⟨Vj,fun k hk=>?_,fun k hk=>b1 k (.inl hk),b3,fun k hk=>(a2 k (.inl hk)).trans (he.block k (hV k hk)),by omega,?_⟩
  ·rcases b2 k hk with e|e
   ·exact hVn k e
   ·exact .inr (by omega)
  ·rcases a3 with ⟨rfl,a3⟩|⟨rfl,a3⟩
   ·exact .inl ⟨rfl,a3⟩
   ·exact .inr ⟨rfl,a3⟩
 by_cases hlt:i<2
 ·refine zf (decide_eq_true (by omega)) ?_;have hb3:Blk w3 r2 (ndV 3 x z y) 215:=(hkp r2 (.inr ⟨by omega,hl2⟩)).trans hb2;have hin:∀ q,w.heap.size<=q->q<w2.heap.size->w3.heap[q]?=w2.heap[q]?:=fun q h1 h2=>hkp q (.inr ⟨h1,h2⟩);have hk3:=hN2.ks.sl.congr (w':=w3) (fun a ha=>hin _ (hN2.ks.row _ (by rw[ha];rfl)) (hN2.ks.yc _ (by rw[ha];rfl)));have hy3:=hN2.kids.congr (w':=w3) (fun a ha=>hin _ (hyr a ha).1 (by have:=(hyr a ha).2;omega));refine zZ (ls:=qS) (ndT 3 x z y) hb3 (by rfl) ?_;refine zb qn ?_;rintro _ w4 ⟨rfl,he4⟩;refine⟨_,rfl,?_⟩;refine zd (by rfl) ?_;have hb4:=hb3.ext he4;have hs4:=he4.size;have hJ4:J Vi (at_ i) w4:=hS _ _ _ _ _ hJ3 (Only.zB he4) (fun k hk=>.inl hk) ((hR _ _ _ hJ3).ext he4);have hkp4:∀ q,V1 q->w4.heap[q]?=w2.heap[q]?:=fun q hq=>(he4.block q (by have:=hV1 q hq;omega)).trans (hkp q hq);obtain⟨k1,k2,k3,k4,k5,k6⟩:=hk i hlt;have ek:([kn 0,kn 1]:List Nat).getD i 0=kn i:=by
   rcases (show i=0\/i=1 by omega) with rfl|rfl<;>rfl
  have ea:at_ i=if i=0 then 0 else (kd 0).2.1.length:=by
   rcases (show i=0\/i=1 by omega) with rfl|rfl<;>rfl
  have ea1:at_ (i+1)=at_ i+(kd i).2.1.length:=by
   rcases (show i=0\/i=1 by omega) with rfl|rfl
   ·show(kd 0).2.1.length=0+_;omega
   ·rfl
  have rec_:=zfv (w:=w4) hY hS hR k1 k2 k3 (by rw[k4];exact ht) k5 k6 (deep:=2) (by omega) (i0:=at_ i) (fun j hj=>by rw[ea];exact hL i j hlt hj) hJ4 (fun k hk=>by have:=hv3 k hk;omega);have next:∀ (v:Value) w5,zcI w4 Vi J E (at_ i+(kd i).2.1.length) v w5->∃ r:Bool,v=.bool r/\w4.heap.size<=w5.heap.size/\∃ Vj:Nat->Prop,(∀ q,V1 q->Vj q)/\(∀ q,Vj q->V1 q\/w2.heap.size<=q)/\(∀ q,Vj q->q<w5.heap.size)/\(∀ q,V1 q->w5.heap[q]?=w2.heap[q]?)/\((r=true/\J Vj (at_ (i+1)) w5)\/(r=false/\E Vj w5)):=by
   rintro v w5 ⟨Vj,c1,c2,c3,c4,c5,c6⟩;rw[ea1];refine(?_:∀ P:Prop,P->P) _ ?_
   ·exact fun _ h=>h
   have g1:∀ q,Vj q->V1 q\/w2.heap.size<=q:=fun q hq=>by
    rcases c1 q hq with e|e
    ·exact hv2 q e
    ·exact .inr (by omega)
   have g2:∀ q,V1 q->w5.heap[q]?=w2.heap[q]?:=fun q hq=>(c4 q (hv1 q hq)).trans (hkp4 q hq);rcases c6 with ⟨rfl,c6⟩|⟨rfl,c6⟩
   ·exact⟨true,rfl,c5,Vj,fun q hq=>c2 q (hv1 q hq),g1,c3,g2,.inl ⟨rfl,c6⟩⟩
   ·exact⟨false,rfl,c5,Vj,fun q hq=>c2 q (hv1 q hq),g1,c3,g2,.inr ⟨rfl,c6⟩⟩
  refine zn 1 x hb4 (by rfl) ?_;have hw:wrap .i64 ((i:Int)+1)=((i+1:Nat):Int):=by rw[wrap_i64 (by omega) (by omega)];rfl
  rw[hw]
  by_cases h0:i+1<2
  ·obtain rfl:i=0:=by omega
   refine zf (decide_eq_true (by omega)) ?_;refine zn 1 x hb4 (by rfl) ?_;refine zU (hk3.ext he4) (by omega) (by omega) ?_;rw[Int.toNat_natCast];refine zd (decide_eq_false (show ¬(((kd 1).2.1.getD 0 0:Nat):Int)<=0 by omega)) ?_;refine zn 3 y hb4 (by rfl) ?_;refine zU (hy3.ext he4) (by omega) (by omega) ?_;rw[Int.toNat_natCast,show([kn 0,kn 1]:List Nat).getD 0 0=kn 0 from rfl];refine zb rec_ ?_;intro v w5 hw5;obtain⟨r,rfl,c0,Vj,c1,c2,c3,c4,c5⟩:=next v w5 hw5
   refine⟨r,rfl,?_⟩;rcases c5 with ⟨rfl,c5⟩|⟨rfl,c5⟩
   ·exact zd (by rfl) ⟨⟨1,Vj,by omega,rfl,c5,c1,c2,c3,c4,by omega⟩,by omega⟩
   ·exact zf (by rfl) (fin (by omega) c1 c2 c3 c4 (.inr ⟨rfl,c5⟩))
  ·obtain rfl:i=1:=by omega
   refine zd (decide_eq_false (by omega)) ?_;refine zn 3 y hb4 (by rfl) ?_;refine zU (hy3.ext he4) (by omega) (by omega) ?_;rw[Int.toNat_natCast,show([kn 0,kn 1]:List Nat).getD 1 0=kn 1 from rfl];refine zb rec_ ?_;intro v w5 hw5;obtain⟨r,rfl,c0,Vj,c1,c2,c3,c4,c5⟩:=next v w5 hw5
   refine⟨r,rfl,?_⟩;rcases c5 with ⟨rfl,c5⟩|⟨rfl,c5⟩
   ·exact zd (by rfl) ⟨⟨2,Vj,by omega,rfl,c5,c1,c2,c3,c4,by omega⟩,by omega⟩
   ·exact zf (by rfl) (fin (by omega) c1 c2 c3 c4 (.inr ⟨rfl,c5⟩))
 ·obtain rfl:i=2:=by omega
  refine zd (decide_eq_false (by omega)) ?_;exact fin (Nat.le_refl _) hv1 hv2 hv3 hkp (.inl ⟨rfl,hJ3⟩)
end V
/- Contracts of the package tree:Each. -/
namespace V
open Go Go.Proofs Go.RowKit Crc
variable {w w':World} {b db:Nat} {S:Spa} {F:Nat->Prop} {R:List Nat}
def uN (ks vs:List Nat):List (List Value):=(ks.zip vs).map fun p=>zcl p.1 p.2
theorem ki {ks vs:List Nat} (h:ks.length=vs.length):(uN ks vs).length=ks.length:=by
 simp[uN,h]
theorem vy {ks vs:List Nat} (h:ks.length=vs.length) {j:Nat} (hj:j<ks.length):(uN ks vs)[j]?=some (zcl (ks.getD j 0) (vs.getD j 0)):=by
 have e1:ks[j]?=some (ks.getD j 0):=by rw[getD_eq_getElem?_getD,List.getElem?_eq_getElem hj];rfl
 have e2:vs[j]?=some (vs.getD j 0):=by rw[getD_eq_getElem?_getD,List.getElem?_eq_getElem (by omega)];rfl
 unfold uN;rw[List.getElem?_map,List.getElem?_zip_eq_some.2 (show ks[j]?=some (ks.getD j 0,vs.getD j 0).1/\vs[j]?=some (ks.getD j 0,vs.getD j 0).2 from⟨e1,e2⟩)];rfl
def zeZ (b db:Nat) (S:Spa) (F:Nat->Prop) (n:Nat) (L:List (List Value)):Prop:=
 ∀ (w:World) (l:Nat) (J:(Nat->Prop)->Nat->WP) (E:(Nat->Prop)->WP) (V:Nat->Prop),Yld prog l L (fun w=>zV w b db S F) J E->Stay (fun w=>zV w b db S F) J->(∀ V i w',J V i w'->zV w' b db S F)->J V 0 w->(∀ k,V k->k<w.heap.size)->
  Calls prog 126 #[.pointer (some ⟨b,0,none⟩),.int .u32 (n:Int),.int .u64 0,.int .i64 1,.func (.yield l) #[] #[]] w (Ret (zcI w V J E L.length))
theorem zeg {n:Nat} (hn:n<4294967296) {p:Page} {d:Nd} (hg:S.get n=(p,0)) (hd:xZ p d) (h3:d.1≠3) (hl:d.2.1.length<=5000) (hv:∀ i,d.val i<18446744073709551616) {L:List (List Value)} (hLl:L.length=d.2.1.length)
  (hL:∀ j,j<d.2.1.length->L[j]?=some (zcl (d.2.1.getD j 0) (d.val j))):zeZ b db S F n L:=by
 intro w l J E V hY hS hR hJ hV;have:=zfv (w:=w) hY hS hR hn hg hd h3 hl hv (deep:=1) (by omega) (i0:=0) (fun j hj=>by rw[Nat.zero_add];exact hL j hj) hJ hV;rw[Nat.zero_add,<- hLl]at this;exact this
theorem qz {l:List Nat} {N:Nat} (h:∀ k∈l,k<N) (hN:0<N) (i:Nat):l.getD i 0<N:=by
 rw[getD_eq_getElem?_getD];cases hq:l[i]? with
 |none=>exact hN
 |some v=>exact h v (mem_of_getElem? hq)
theorem zju (hg:Good S R) {n:Nat} {ks vs:List Nat} (ht:vb S n ks vs) (hu:zE S.sup.pages S.now n=true) (hl:ks.length<=5000) (hvs:∀ k∈vs,k<4294967296):zeZ b db S F n (uN ks vs):=by
 have hn32:n<4294967296:=by
  have:=hg.well.lt hu;have:=hg.dims.n;omega
 have hval:∀ i,vs.getD i 0<18446744073709551616:=fun i=>by have:=qz hvs (by omega) i;omega
 cases ht with
 |one hA=>
  obtain⟨g1,g2,g3⟩:=hA.get hg hu;exact zeg hn32 g1 g2 (by show(5:UInt8)≠3;decide) hl hval (ki hA.2.1) (fun j hj=>vy hA.2.1 hj)
 |two m a c h1 h2 h3 h4 h5 h6 h7 h8=>
  have hkid:z6 S.page n=[a,c]:=by unfold z6;rw[h6]
  have hua:=((hg.well.good n hu).2 a (by rw[hkid];simp));have huc:=((hg.well.good n hu).2 c (by rw[hkid];simp));obtain⟨a1,a2,a3⟩:=h7.get hg hua;obtain⟨c1,c2,c3⟩:=h8.get hg huc;have e0:(ks.take m).getD 0 0=ks.getD 0 0:=getD_take (by omega);have e1:(ks.drop m).getD 0 0=ks.getD m 0:=vS;have htl:(ks.take m).length=m:=by rw[length_take];omega
  have hdl:(ks.drop m).length=ks.length-m:=length_drop;have hlt:=zcj h4 (m-1) 0 (by omega);rw[show 0+(m-1)+1=m by omega]at hlt;have hm:∀ i,i<ks.length->ks.getD i 0<18446744073709551616:=fun i hi=>by
   rw[getD_eq_getElem?_getD,List.getElem?_eq_getElem hi];exact h5 _ (getElem_mem _)
  have hin:xZ (S.page n).1 ((3:UInt8),[ks.getD 0 0,ks.getD m 0],[],[a,c]):=by
   rw[h6];refine xZ.inner _ _ rfl (by simp) ?_ ?_
   ·show(decide (ks.getD 0 0<ks.getD m 0)&&true)=true;rw[decide_eq_true hlt];rfl
   ·intro q hq;simp only [mem_cons,not_mem_nil,or_false]at hq;rcases hq with rfl|rfl
    ·exact hm _ (by omega)
    ·exact hm _ h2
  intro w l J E V hY hS hR hJ hV;have:=zmK (w:=w) hY hS hR (t:=5) (kn:=fun i=>if i=0 then a else c) (kd:=kdT ks vs m) (kp:=fun i=>if i=0 then ((5:UInt8),vs.take m,mkB (k8B (ks.take m))) else ((5:UInt8),vs.drop m,mkB (k8B (ks.drop m)))) hn32 (by decide) ((hg.get hu).1.trans (Prod.ext rfl (hg.get hu).2)) (p:=(S.page n).1) ?_ (fun i hi=>?_) ?_ (fun i j hi hj=>?_) hJ hV
  ·have e2:(kdT ks vs m 0).2.1.length+(kdT ks vs m 1).2.1.length=(uN ks vs).length:=by
    show(ks.take m).length+(ks.drop m).length=_;rw[ki h3];omega
   rw[e2]at this;exact this
  ·show xZ _ ((3:UInt8),[(ks.take m).getD 0 0,(ks.drop m).getD 0 0],[],[a,c]);rw[e0,e1];exact hin
  ·rcases (show i=0\/i=1 by omega) with rfl|rfl
   ·exact⟨a3,a1,a2,rfl,by show(ks.take m).length<=5000;omega,fun j=>by show(vs.take m).getD j 0<_;have:=qz (l:=vs.take m) (fun k hk=>hvs k (List.mem_of_mem_take hk)) (by omega) j;omega⟩
   ·exact⟨c3,c1,c2,rfl,by show(ks.drop m).length<=5000;omega,fun j=>by show(vs.drop m).getD j 0<_;have:=qz (l:=vs.drop m) (fun k hk=>hvs k (List.mem_of_mem_drop hk)) (by omega) j;omega⟩
  ·show 0<(ks.drop m).getD 0 0;rw[e1];omega
  ·rcases (show i=0\/i=1 by omega) with rfl|rfl
   ·have hj:j<(ks.take m).length:=hj;show(uN ks vs)[0+j]?=some (zcl ((ks.take m).getD j 0) ((vs.take m).getD j 0));rw[Nat.zero_add,getD_take (by omega),getD_take (by omega)];exact vy h3 (by omega)
   ·have hj:j<(ks.drop m).length:=hj;show(uN ks vs)[(ks.take m).length+j]?=some (zcl ((ks.drop m).getD j 0) ((vs.drop m).getD j 0));rw[htl,vS,vS];exact vy h3 (by omega)
def Three (b n r1 r2 r3:Nat):WP:=fun w=>Blk w r1 [.pointer (some ⟨b,0,none⟩)] 48/\Blk w r2 [.int .u32 (n:Int)] 41/\Blk w r3 [.int .u64 0] 42
theorem zeh {n:Nat} {L:List (List Value)} (hw:zeZ b db S F n L) (hn0:n≠0):
  Calls prog 80 #[.pointer (some ⟨b,0,none⟩),.int .u32 (n:Int),.int .u64 0] w (Ret fun v w'=>∃ (Q:Nat->Prop) (R0:WP),zjo prog v L (fun w=>zV w b db S F) Q R0 (fun _=>True) (fun _ _=>True)/\R0 w'/\(∀ w1 w2,R0 w1->Ext w1 w2->R0 w2)/\(∀ k,Q k->k<w'.heap.size)/\(∀ k,Q k->w.heap.size<=k)/\Ext w w'):=by
 apply zn6;unfold S80;refine zr fun r1 w1 hb1 he1 hr1 hz1=>?_;refine zr fun r2 w2 hb2 he2 hr2 hz2=>?_;refine zr fun r3 w3 hb3 he3 hr3 hz3=>?_;have he:=(he1.trans he2).trans he3;refine⟨fun k=>k=r1\/k=r2\/k=r3,Three b n r1 r2 r3,?_,⟨(hb1.ext he2).ext he3,hb2.ext he3,hb3⟩,fun w1 w2 h1 h2=>⟨h1.1.ext h2,h1.2.1.ext h2,h1.2.2.ext h2⟩,fun k hk=>by rcases hk with rfl|rfl|rfl<;>omega,fun k hk=>by rcases hk with rfl|rfl|rfl<;>omega,he⟩;refine⟨_,_,rfl,by kernel_rfl,fun l J E wc hJ0 hQc hR0c hJR hJs hEs hY=>?_⟩;obtain⟨k1,k2,k3⟩:=hR0c;apply zls;unfold S125;refine zF (some (aD b)) k1 (by rfl) (zf (by rfl) ?_);refine zF ((n:Nat):Int) k2 (by rfl) (zf (bne_iff_ne.2 (by omega)) ?_);refine zF (some (aD b)) k1 (by rfl) (zF ((n:Nat):Int) k2 (by rfl) (zF (0:Int) k3 (by rfl) ?_));refine zb (hw _ _ _ _ _ (fun V i w' h hJ hV=>hY V i w' h hJ hV (fun _ _=>trivial)) hJs hJR hJ0 hQc) ?_;rintro v w4 ⟨V',a1,a2,a3,a4,a5,⟨rfl,a6⟩|⟨rfl,a6⟩⟩
 ·exact⟨true,rfl,V',.inl ⟨a6,a1,trivial⟩⟩
 ·exact⟨false,rfl,V',.inr a6⟩
end V
/- Contracts of the package blob:Most,Put. -/
namespace V
open Go Go.Proofs Go.RowKit Crc
variable {w w':World} {b db:Nat} {S:Spa} {F Fd:Nat->Prop} {x:SLC} {hb hr nb nr:Nat} {m:MkL}
theorem xJ {S:Spa} (h:uK S):S.room 0=(S.r0:Int)/\110<=S.r0/\S.r0<=4078/\S.sup.size=(S.r0:Int)+18:=by
 have hsz:=h.size;have hr0:S.room 0=S.sup.size-18:=by unfold Spa.room;rw[h.room,if_neg (by omega)];omega
 unfold Spa.r0;omega
theorem zjv (h:SpM w b db S F Fd x hb hr nb nr m):
  Calls prog 131 #[.pointer (some ⟨b,0,none⟩)] w (Ret fun v w'=>v=.int .i64 (qG S.r0:Int)/\Ext w w'):=by
 obtain⟨h0,h1,h2,h3⟩:=xJ h.dims;apply zlv;unfold S131;refine zb (qQ h (k:=0) (by omega) (by omega)) ?_;rintro _ w1 ⟨rfl,he⟩;refine⟨_,rfl,?_,he⟩;rw[h0];have e1:wrap .i64 ((S.r0:Int)-4)=((S.r0-4:Nat):Int):=by rw[wrap_i64 (by omega) (by omega)];omega
 have e2:wrap .i64 (Int.tdiv ((S.r0-4:Nat):Int) 4)=(((S.r0-4) / 4:Nat):Int):=by
  rw[show Int.tdiv ((S.r0-4:Nat):Int) 4=(((S.r0-4) / 4:Nat):Int) from rfl,wrap_i64 (by omega) (by omega)]
 have hm:(S.r0-4) / 4*S.r0<=1019*4078:=Nat.mul_le_mul (by omega) h2;have hm1:26*110<=(S.r0-4) / 4*S.r0:=Nat.mul_le_mul (by omega) h1;have e3:wrap .i64 ((((S.r0-4) / 4:Nat):Int)*(S.r0:Int))=(((S.r0-4) / 4*S.r0:Nat):Int):=by
  rw[<- Int.natCast_mul,wrap_i64 (by omega) (by omega)]
 rw[e1,e2,e3];unfold qG;generalize (S.r0-4) / 4*S.r0=M at *;refine congrArg (Value.int .i64) ?_
 by_cases hM:M<65536
 ·rw[if_pos (show(M:Int)<65536 by omega),if_pos (show(M:Int)>0 by omega)];omega
 ·rw[if_neg (show ¬(M:Int)<65536 by omega),if_pos (by decide)];omega
theorem zei {r1 r2 r8 n c:Nat} {A:Option Addr} {ks c':List Nat} {e:Int} (h:SpM w b db S F Fd x hb hr nb nr m) (h1:Blk w r1 [.pointer (some ⟨b,0,none⟩)] 48) (h2:Blk w r2 [.int .i64 e] 28) (h8:Blk w r8 [.slice A n c] 54)
  (hs:Sli (zu .u32) w A n ks) (h32:∀ k∈ks,k<4294967296) (hf1:¬F r1) (hf2:¬F r2) (hA:∀ a,A=some a->¬F a.block) (hD:e≠0->Drps S.asked S.page S.now ks c'):
  uv prog 132 [.pointer (some ⟨r2,0,none⟩),.pointer (some ⟨r8,0,none⟩),.pointer (some ⟨r1,0,none⟩)] w fun _ w'=>SpM w' b db { S with now:=if e=0 then S.now else c' } F Fd x hb hr nb nr m/\Only F w w'/\Blk w' r2 [.int .i64 e] 28:=by
 apply zj5;unfold S132;refine zo (x:=e) h2 (by rfl) ?_;refine zg (fun hq=>?_) (fun hq=>?_)
 ·have hq:=bne_iff_ne.1 hq;rw[if_neg hq];have hD:=hD hq;refine zo (l:=.slc) (x:=(A,n,c)) h8 (by rfl) ?_;dsimp only;have hl:=hs.len;have hle:=hs.le;refine zz (fun y w'=>∃ (i:Nat) (cc:List Nat),i<=n/\y=((i:Int),())/\SpM w' b db { S with now:=cc } F Fd x hb hr nb nr m/\Only F w w'/\Drps S.asked S.page cc (ks.drop i) c') (fun y=>(n-y.1).toNat) ⟨0,S.now,by omega,rfl,h,Only.refl F w,hD⟩ ?_;rintro _ w1 ⟨i,cc,hi,rfl,hS,hO,hDi⟩;dsimp only
  by_cases hlt:i<n
  ·refine zf (decide_eq_true (by omega)) ?_;refine zU (hs.only hO hA) (by omega) (by omega) ?_;rw[Int.toNat_natCast];have eg:ks[i]?=some (ks.getD i 0):=by rw[getD_eq_getElem?_getD,List.getElem?_eq_getElem (by omega)];rfl
   have hk32:=h32 _ (mem_of_getElem? eg);have edrop:ks.drop i=ks.getD i 0::ks.drop (i+1):=by
    obtain⟨q1,q2⟩:=List.getElem?_eq_some_iff.1 eg;rw[List.drop_eq_getElem_cons q1,q2]
   rw[edrop]at hDi;refine zo (x:=some ⟨b,0,none⟩) (h1.only hO hf1) (by rfl) ?_;generalize ks.getD i 0=k at *;cases hDi with
   |@cons _ c1 _ _ _ e1 d1 d2 d3=>
   refine zb (zed hS hk32 (c':=c1) (e:=e1) d1 d2) ?_;rintro _ w2 ⟨rfl,hS2,hO2⟩;refine⟨_,rfl,?_⟩;refine⟨⟨i+1,c1,by omega,by rw[wrap_i64 (by omega) (by omega)];rfl,hS2,Only.trans hO hO2 (fun j hj=>.inl hj),d3⟩,by rw[wrap_i64 (by omega) (by omega)];omega⟩
  ·obtain rfl:i=n:=by omega
   refine zd (decide_eq_false (by omega)) ?_;rw[drop_of_length_le (by omega)]at hDi;cases hDi;exact⟨hS,hO,h2.only hO hf2⟩
 ·have hq:=bne_eq_false_iff_eq.1 hq;rw[if_pos hq];exact⟨h,Only.refl F w,h2⟩
def zm9 (w:World) (b db:Nat) (F:Nat->Prop) (S:Spa) (R:List Nat) (bs:ByteArray) (v:Value) (w':World):Prop:=
 (qG S.r0<bs.size/\v=.tuple #[.int .u32 0,.int .i64 3]/\yw w b db F S w')\/
 (bs.size<=qG S.r0/\S.sup.pages.length+nparts S.r0 bs.size+1<=S.zQ/\∃ (S1 S2:Spa) (ks:List Nat) (n:Nat),Puts S S1 R ks (vJ S.r0 bs (nparts S.r0 bs.size))/\kZ S1 S2 ((6:UInt8),ks,mkB (le 4 bs.size)) n/\Good S2 (n::R)/\v=.tuple #[.int .u32 (n:Int),.int .i64 0]/\yw w b db F S2 w')\/
 (bs.size<=qG S.r0/\S.zQ<S.sup.pages.length+nparts S.r0 bs.size+1/\∃ (S1:Spa) (ks:List Nat) (ps:List Page),Puts S S1 R ks ps/\Good { S1 with now:=S.now } R/\v=.tuple #[.int .u32 0,.int .i64 9]/\yw w b db F { S1 with now:=S.now } w')
theorem zcm {r len:Nat} (h1:110<=r) (hm:len<=qG r):4*nparts r len+4<=r/\nparts r len<=65536:=by
 unfold qG at hm;have h2:len<=(r-4) / 4*r:=by omega
 have h3:nparts r len<=(r-4) / 4:=by
  unfold nparts;rw[Nat.div_le_iff_le_mul_add_pred (by omega)];rw[Nat.mul_comm r];omega
 have h4:nparts r len<=len:=by
  unfold nparts;rw[Nat.div_le_iff_le_mul_add_pred (by omega)];have:len<=r*len:=Nat.le_mul_of_pos_left _ (by omega);omega
 omega
theorem zjw {R:List Nat} (h:SpM w b db S F Fd x hb hr nb nr m) (hg:Good S R) (hpen:S.dev.pen.length<=900000) (bs:ByteArray) (hbs:bs.size<=1000000000):
  Calls prog 85 #[.pointer (some ⟨b,0,none⟩),.string bs] w (Ret (zm9 w b db F S R bs)):=by
 obtain⟨q0,q1,q2,q3⟩:=xJ h.dims;have hFlt:=h.lt;apply zob;unfold S85;refine zr fun r1 w1 hb1 he1 hr1 hz1=>?_;refine zr fun r2 w2 hb2 he2 hr2 hz2=>?_;have hb1:=hb1.ext he2;have he:=he1.trans he2;refine zo (x:=some ⟨b,0,none⟩) hb1 (by rfl) (zd (by rfl) ?_);refine zo (x:=some ⟨b,0,none⟩) hb1 (by rfl) ?_;refine zb (zjv (h.ext he)) ?_;rintro _ w3 ⟨rfl,he3⟩;refine⟨_,rfl,?_⟩;have hb1:=hb1.ext he3;have hb2:=hb2.ext he3;have he3':=he.trans he3;have hs1:=he1.size;refine zg (fun hq=>?_) (fun hq=>?_)
 ·have hq:=of_decide_eq_true hq;refine zS hb2 (by show 0<1;omega) ?_;refine zo (x:=(3:Int)) (hb2.set 0 (.int .i64 3)) (by rfl) ?_;exact .inl ⟨by omega,rfl,yw.ext h.zeU (he3'.set (p:=⟨r2,0,none⟩) (by show w.heap.size<=r2;omega) _)⟩
 have hmost:bs.size<=qG S.r0:=by have:=of_decide_eq_false hq;omega
 obtain⟨hn1,hn2⟩:=zcm q1 hmost;refine zr fun r8 w4 hb8 he4 hr8 hz8=>?_;have hb1:=hb1.ext he4;have hb2:=hb2.ext he4;have he4':=he3'.trans he4;refine zo (x:=some ⟨b,0,none⟩) hb1 (by rfl) ?_;refine zb (qQ (h.ext he4') (k:=0) (by omega) (by omega)) ?_;rintro _ w5 ⟨rfl,he5⟩;refine⟨_,rfl,?_⟩;rw[q0];refine zK (by omega) ?_;have hb1:=hb1.ext he5;have hb2:=hb2.ext he5;have hb8:=hb8.ext he5;have he5':=he4'.trans he5;have hr1l:=hb1.lt;have hr2l:=hb2.lt;have hr8l:=hb8.lt;have hs3:=he3.size;generalize hm:nparts S.r0 bs.size=M at *;have eM:wrap .i64 (Int.tdiv (wrap .i64 (wrap .i64 (((bs.size:Nat):Int)+(S.r0:Int))-1)) (S.r0:Int))=(M:Int):=by
  rw[wrap_i64 (x:=((bs.size:Nat):Int)+(S.r0:Int)) (by omega) (by omega),wrap_i64 (x:=((bs.size:Nat):Int)+(S.r0:Int)-1) (by omega) (by omega)];rw[show((bs.size:Nat):Int)+(S.r0:Int)-1=((bs.size+S.r0-1:Nat):Int) by omega,show Int.tdiv ((bs.size+S.r0-1:Nat):Int) (S.r0:Int)=(((bs.size+S.r0-1) / S.r0:Nat):Int) from rfl];have:(bs.size+S.r0-1) / S.r0=M:=hm;rw[this,wrap_i64 (by omega) (by omega)]
 rw[eM];have hnF:∀ j,w.heap.size<=j->¬F j:=fun j hj hf=>by have:=hFlt j hf;omega
 -- the end, with an error: what was put goes back
 have fail:∀ {S1:Spa} {ks:List Nat} {F':Nat->Prop} {w9:World} {A:Option Addr} {c:Nat} (i:Nat),i=ks.length->Puts S S1 R ks (vJ S.r0 bs i)->zV w9 b db S1 F'->(∀ k,F' k->F k\/w5.heap.size<=k)->Only F w w9->S.zQ<S.sup.pages.length+M+1->
   Blk w9 r1 [.pointer (some ⟨b,0,none⟩)] 48->Blk w9 r2 [.int .i64 0] 28->Blk w9 r8 [.slice A i c] 54->Sli (zu .u32) w9 A i ks->(∀ a,A=some a->w.heap.size<=a.block/\a.block≠r1/\a.block≠r2/\a.block≠r8/\¬F' a.block)->
   stW ⟨r2,0,none⟩ (.int .i64 9) (zR prog (⟨.fn (.func 132) #[.pointer (some ⟨r2,0,none⟩),.pointer (some ⟨r8,0,none⟩),.pointer (some ⟨r1,0,none⟩)],#[]⟩::[]) (ldW (.int .i64) ⟨r2,0,none⟩ fun u=>zm9 w b db F S R bs (.tuple #[.int .u32 0,.int .i64 u]))) w9:=by
  rintro S1 ks F' w9 A c i rfl hP ⟨Fd',x',hb',hr',nb',nr',m',hS1⟩ hF' hO hfull k1 k2 k8 hs hA;refine zS k2 (by show 0<1;omega) ?_;have hg9:=yH w9 r2 0 (.int .i64 9);have oc:Only (fun k=>k=r2) w9 (w9.setCell ⟨r2,0,none⟩ (.int .i64 9)):=Only.z8 hg9 (fun j hj=>.inl (by injection hj with hj;exact hj.symm));have k2':=k2.set 0 (.int .i64 9);have hF5:∀ j,w.heap.size<=j->j<w5.heap.size->¬F' j:=fun j a1 a2 hf=>by
   rcases hF' j hf with e|e
   ·exact hnF j a1 e
   ·omega
  have hS1':=hS1.only oc (fun j hj e=>hF5 r2 (by omega) (by omega) (by rw[<- show j=r2 from e];exact hj));obtain⟨c',u1,u2,u3⟩:=hP.undo hg (fun j hj=>by
   unfold vJ
   simp[getD_eq_getElem?_getD,hj])
  have h32:∀ k∈ks,k<4294967296:=fun k hk=>by have:=(hP.mem hk).2.1;have:=h.dims.n;omega
  refine .inr ⟨_,_,rfl,by kernel_rfl,?_⟩;refine CallsDIn.mono (zei (c':=c') hS1' (k1.only oc (by show ¬r1=r2;omega)) k2' (k8.only oc (by show ¬r8=r2;omega)) (hs.only oc (fun a ha e=>(hA a ha).2.2.1 e)) h32 (hF5 r1 (by omega) (by omega)) (hF5 r2 (by omega) (by omega)) (fun a ha=>(hA a ha).2.2.2.2) (fun _=>u1)) ?_;rintro e u' w10 ⟨hu,hR⟩;refine⟨hu,?_⟩;cases e with
  |returned v=>
   obtain⟨p1,p2,p3⟩:=hR;refine zo (x:=(9:Int)) p3 (by rfl) (.inr (.inr ⟨hmost,by rw[hm];omega,S1,ks,_,hP,by rw[<- u2];exact u3,rfl,F',?_,fun k hk=>?_,?_⟩))
   ·rw[if_neg (by decide),u2]at p1;exact p1.zeU
   ·rcases hF' k hk with e|e
    ·exact .inl e
    ·exact .inr (Nat.le_trans he5'.size e)
   ·have o9:Only F w (w9.setCell ⟨r2,0,none⟩ (.int .i64 9)):=Only.trans hO oc (fun j hj=>.inr (by have:j=r2:=hj;omega));exact Only.trans o9 p2 (fun j hj=>by
     rcases hF' j hj with e|e
     ·exact .inl e
     ·exact .inr (Nat.le_trans he5'.size e))
  |panicked c=>exact hR.elim
  |outgrown=>exact hR.elim
 refine zz (fun y w'=>∃ (i:Nat) (Si:Spa) (ks:List Nat) (F':Nat->Prop) (A:Option Addr) (c:Nat),i<=M/\i=ks.length/\y=((i:Int),())/\Puts S Si R ks (vJ S.r0 bs i)/\zV w' b db Si F'/\(∀ k,F' k->F k\/w5.heap.size<=k)/\Only F w w'/\w5.heap.size<=w'.heap.size/\
   Blk w' r1 [.pointer (some ⟨b,0,none⟩)] 48/\Blk w' r2 [.int .i64 0] 28/\Blk w' r8 [.slice A i c] 54/\Owni (zu .u32) 41 w' w5.heap.size A i c ks/\(∀ j,orow A=some j->¬F' j)) (fun y=>(M-y.1).toNat)
  ⟨0,S,[],F,none,0,by omega,rfl,rfl,Puts.nil hg,(h.ext he5').zeU,fun k hk=>.inl hk,Only.zB he5',Nat.le_refl _,hb1,hb2,hb8,Owni.nil _ _ _,fun j hj=>by cases hj⟩ ?_
 rintro _ w6 ⟨i,Si,ks,F',A,c,hi,hik,rfl,hP,hAt,hF',hO,hsz,k1,k2,k8,ho,hAF⟩;dsimp only;have hF5:∀ j,w.heap.size<=j->j<w5.heap.size->¬F' j:=fun j a1 a2 hf=>by
  rcases hF' j hf with e|e
  ·exact hnF j a1 e
  ·omega
 have hF'w:∀ k,F' k->F k\/w.heap.size<=k:=fun k hk=>by
  rcases hF' k hk with e|e
  ·exact .inl e
  ·exact .inr (Nat.le_trans he5'.size e)
 have hrow:∀ a,A=some a->w5.heap.size<=a.block:=fun a ha=>ho.row _ (by rw[ha];rfl);have hAok:∀ a,A=some a->w.heap.size<=a.block/\a.block≠r1/\a.block≠r2/\a.block≠r8/\¬F' a.block:=fun a ha=>by
  have:=hrow a ha;exact⟨by omega,by omega,by omega,by omega,hAF _ (by rw[ha];rfl)⟩
 have hfr:S.zQ=ks.length+Si.zQ:=by
  unfold Spa.zQ;rw[hP.free,length_append]
 have hr0i:Si.r0=S.r0/\Si.room 0=(S.r0:Int)/\∀ k,Si.room k=S.room k:=by
  have:∀ k,Si.room k=S.room k:=fun k=>by unfold Spa.room;rw[hP.sup]
  refine⟨by unfold Spa.r0;rw[this],by rw[this];exact q0,this⟩
 have hpeni:Si.dev.pen.length<=1000000:=by rw[hP.pen];omega
 have hgeni:Si.sup.gen+1<18446744073709551616:=by have:=hP.good.gen;omega
 have hpgi:Si.sup.pages.length=S.sup.pages.length:=by rw[hP.sup]
 by_cases hlt:i<M
 ·refine zf (decide_eq_true (by omega)) ?_;refine zM fun w7 he7 _ _=>?_;have hoi7:=ho.ext he7;have hAt7:=hAt.ext he7;have o7:Only F w w7:=Only.trans hO (Only.zB (F:=F) he7) (fun j hj=>.inl hj);refine zo (x:=some ⟨b,0,none⟩) (k1.ext he7) (by rfl) ?_;have hilt:i*S.r0<bs.size:=(zch (by omega)).1 (by rw[hm];exact hlt);have hsucc:(i+1)*S.r0=i*S.r0+S.r0:=by rw[Nat.add_mul,Nat.one_mul]
  have w1':wrap .i64 ((i:Int)*(S.r0:Int))=((i*S.r0:Nat):Int):=by rw[<- Int.natCast_mul,wrap_i64 (by omega) (by omega)]
  have w2':wrap .i64 ((i:Int)+1)=((i+1:Nat):Int):=by rw[wrap_i64 (by omega) (by omega)];rfl
  have w3':wrap .i64 (((i+1:Nat):Int)*(S.r0:Int))=(((i+1)*S.r0:Nat):Int):=by rw[<- Int.natCast_mul,wrap_i64 (by omega) (by omega)]
  have w4':(if (((i+1)*S.r0:Nat):Int)<((bs.size:Nat):Int) then (((i+1)*S.r0:Nat):Int) else ((bs.size:Nat):Int))=((min bs.size ((i+1)*S.r0):Nat):Int):=by split<;>omega
  rw[w1',w2',w3',w4'];refine zK ⟨by omega,by omega,by omega⟩ ?_;rw[Int.toNat_natCast,Int.toNat_natCast];show ze _ _ [_,.agg (pgV ((7:UInt8),[],part S.r0 bs i) (none,0,0)).toArray] _ _ w7;obtain⟨Fd7,x7,hb7,hr7,nb7,nr7,m7,hS7⟩:=hAt7;have hps:=zci (r:=S.r0) (b:=bs) (i:=i) (by omega) (by rw[hm];exact hlt);refine zb (zbh hS7 hP.good.h01 hgeni hpeni ((7:UInt8),[],part S.r0 bs i) (Sli.nil w7 none) (by simp) (fun a ha=>by cases ha) (by show(part S.r0 bs i).size<=_;omega)) ?_;rintro _ w8 ⟨rfl,F8,hAt8,hF8,hO8⟩;have hF8w:∀ k,F8 k->F k\/w5.heap.size<=k:=fun k hk=>by
   rcases hF8 k hk with e|e
   ·exact hF' k e
   ·exact .inr (by have:=he7.size;omega)
  have o8:Only F w w8:=Only.trans o7 hO8 hF'w;have k18:=(k1.ext he7).only hO8 (hF5 r1 (by omega) (by omega));have k28:=(k2.ext he7).only hO8 (hF5 r2 (by omega) (by omega));have k88:=(k8.ext he7).only hO8 (hF5 r8 (by omega) (by omega));have ho8:=hoi7.only hO8 hAF;have hAF8:∀ j,orow A=some j->¬F8 j:=fun j hj hf=>by
   rcases hF8 j hf with e|e
   ·exact hAF j hj e
   ·have:=hoi7.yc j hj;omega
  have hs8:=hO8.2.2.2.1;have hs7:=he7.size
  by_cases hfree:Si.sup.pages.length<Si.zQ
  ·obtain⟨s1,s2⟩:=hP.step (t:=7) (d:=part S.r0 bs i) (by decide) (by rw[hr0i.2.1];omega) hfree;refine⟨(((Si.put ((7:UInt8),[],part S.r0 bs i)).2.1:Int),(Si.put ((7:UInt8),[],part S.r0 bs i)).2.2,()),rfl,?_⟩;rw[s1];refine zd (by rfl) ?_;generalize (Si.put ((7:UInt8),[],part S.r0 bs i)).2.1=n at *;refine zo (l:=.slc) (x:=(A,i,c)) k88 (by rfl) ?_;dsimp only;have hle:=ho8.le;refine xa (E:=zu .u32) (ys:=[n]) (by rfl) rfl jF ho8 (by omega) (by omega) (by omega) ?_;intro A' c' w9 ho9 hg9;have hx9:∀ j,orow A=some j->w5.heap.size<=j:=fun j hj=>ho8.row j hj;have oc:Only (fun j=>orow A=some j) w8 w9:=Only.z8 hg9.grown (fun j hj=>.inl hj);have hAt9:=hAt8.only oc (fun j hj e=>hAF8 j e hj);have k19:=k18.only oc (fun e=>by have:=hx9 _ e;omega);have k29:=k28.only oc (fun e=>by have:=hx9 _ e;omega);have k89:=k88.only oc (fun e=>by have:=hx9 _ e;omega);have o9:Only F w w9:=Only.trans o8 oc (fun j hj=>.inr (by have:=hx9 j hj;omega));refine zS k89 (by show 0<1;omega) ?_;have hg10:=yH w9 r8 0 (.slice A' (i+1) c');have oc2:Only (fun k=>k=r8) w9 (w9.setCell ⟨r8,0,none⟩ (.slice A' (i+1) c')):=Only.z8 hg10 (fun j hj=>.inl (by injection hj with hj;exact hj.symm));have hr8F:¬F8 r8:=fun hf=>by
    rcases hF8w r8 hf with e|e
    ·exact hnF r8 (by omega) e
    ·omega
   refine⟨⟨i+1,_,ks++[n],F8,A',c',by omega,by rw[length_append,length_singleton,hik],rfl,by rw[zjt];exact s2,hAt9.only oc2 (fun j hj e=>hr8F (by rw[<- show j=r8 from e];exact hj)),hF8w,Only.trans o9 oc2 (fun j hj=>.inr (by have:j=r8:=hj;omega)),?_,k19.only oc2 (by show ¬r1=r8;omega),k29.only oc2 (by show ¬r2=r8;omega),k89.set 0 _,?_,fun j hj=>?_⟩,by omega⟩
   ·exact Nat.le_trans hsz (Nat.le_trans hs7 (Nat.le_trans hs8 (Nat.le_trans hg9.grown.size hg10.size)))
   ·exact ho9.only oc2 (fun j hj e=>by have:=ho9.row j hj;have:j=r8:=e;omega)
   ·rcases hg9.next j hj with e|e
    ·exact hAF8 j e
    ·intro hf;have:=hAt8.lt j hf;omega
  ·have e9:=zgT (S:=Si) (R:=ks++R) (p:=((7:UInt8),[],part S.r0 bs i)) hP.good (show 3<=(7:UInt8).toNat by decide) (by rw[hr0i.2.1];show((0:Nat):Int)<=_;omega) (by show((part S.r0 bs i).size:Int)<=Si.room ((0:Nat):Int);rw[show(((0:Nat):Int))=0 from rfl,hr0i.2.1];omega) (by omega);rw[e9]at hAt8 ⊢;refine⟨((0:Int),(9:Int),()),rfl,zf (by rfl) ?_⟩;exact fail i hik hP hAt8 hF8w o8 (by omega) k18 k28 k88 ho8.sl (fun a ha=>by
    obtain⟨a1,a2,a3,a4,a5⟩:=hAok a ha
    exact⟨a1,a2,a3,a4,hAF8 _ (by rw[ha];rfl)⟩)
 obtain rfl:i=M:=by omega
 refine zd (decide_eq_false (by omega)) ?_;refine zM fun w7 he7 _ _=>?_;have o7:Only F w w7:=Only.trans hO (Only.zB (F:=F) he7) (fun j hj=>.inl hj);refine zo (x:=some ⟨b,0,none⟩) (k1.ext he7) (by rfl) ?_;refine zo (l:=.slc) (x:=(A,i,c)) (k8.ext he7) (by rfl) ?_;rw[zx (by omega)];refine zb (xi (bs:=[]) (v:=bs.size) (k:=4) (Own.nil 5 w7 w7.heap.size) (Nat.le_refl _) (by omega) (by omega) (by omega) (by omega)) ?_;rintro _ w8 ⟨y8,rfl,ho8,hg8⟩;refine⟨y8,rfl,?_⟩;have hx8:Ext w7 w8:=(Ext.refl w7).grown hg8.grown (fun j hj=>by cases hj);have he8:=he7.trans hx8;have k18:=k1.ext he8;have k28:=k2.ext he8;have k88:=k8.ext he8;have hoo:=ho.ext he8;have o8:Only F w w8:=Only.trans hO (Only.zB (F:=F) he8) (fun j hj=>.inl hj);have held:∀ l∈([[((aD r8),.slice A i c)],[((aD r1),.pointer (some ⟨b,0,none⟩))]]:List (List (Addr×Value))),∀ p∈l,w8.cell? p.1=some p.2:=fun l hl p hp=>by
  simp only [mem_cons,not_mem_nil,or_false]at hl;rcases hl with rfl|rfl<;>(simp only [mem_cons,not_mem_nil,or_false]at hp;subst hp)
  ·exact(k88.cell 0).trans rfl
  ·exact(k18.cell 0).trans rfl
 refine⟨held,?_⟩;refine qO (e:=5) (by kernel_rfl) (by kernel_rfl) (by kernel_rfl) ho8.sl ?_;refine⟨held,?_⟩;rw[List.nil_append];show ze _ _ [_,.agg (pgV ((6:UInt8),ks,mkB (le 4 bs.size)) (A,i,c)).toArray] _ _ w8;obtain⟨Fd8,x8,hb8',hr8',nb8,nr8,m8,hS8⟩:=hAt.ext he8;have hs8:=he8.size;have hp1:((6:UInt8),ks,mkB (le 4 bs.size)).2.1.length=i:=hik.symm;have hd4:(mkB (le 4 bs.size)).size=4:=by rw[xf,zv]
 have hkr:Si.room ks.length=(S.r0:Int)-4*i:=by
  have:=h.dims.room;rw[hr0i.2.2,<- hik];unfold Spa.room;rw[this,if_neg (by omega)];omega
 refine zb (zbh hS8 hP.good.h01 hgeni hpeni ((6:UInt8),ks,mkB (le 4 bs.size)) hoo.sl (fun k hk=>by have:=(hP.mem hk).2.1;have:=h.dims.n;omega) (fun a ha=>(hAok a ha).2.2.2.2) (by show(mkB (le 4 bs.size)).size<=_;omega)) ?_;rintro _ w9 ⟨rfl,F9,hAt9,hF9,hO9⟩;have hF9w:∀ k,F9 k->F k\/w5.heap.size<=k:=fun k hk=>by
  rcases hF9 k hk with e|e
  ·exact hF' k e
  ·exact .inr (by omega)
 have o9:Only F w w9:=Only.trans o8 hO9 hF'w;have k19:=k18.only hO9 (hF5 r1 (by omega) (by omega));have k29:=k28.only hO9 (hF5 r2 (by omega) (by omega));have k89:=k88.only hO9 (hF5 r8 (by omega) (by omega));have ho9:=hoo.only hO9 hAF;have hAF9:∀ j,orow A=some j->¬F9 j:=fun j hj hf=>by
  rcases hF9 j hf with e|e
  ·exact hAF j hj e
  ·have:=hoo.yc j hj;omega
 have hA9:∀ a,A=some a->w.heap.size<=a.block/\a.block≠r1/\a.block≠r2/\a.block≠r8/\¬F9 a.block:=fun a ha=>by
  obtain⟨a1,a2,a3,a4,a5⟩:=hAok a ha;exact⟨a1,a2,a3,a4,hAF9 _ (by rw[ha];rfl)⟩
 by_cases hfree:Si.sup.pages.length<Si.zQ
 ·obtain⟨s1,s2,s3⟩:=zdC (S:=Si) (R:=R) (p:=((6:UInt8),ks,mkB (le 4 bs.size))) hP.good (show 3<=(6:UInt8).toNat by decide) (by show((ks.length:Nat):Int)<=_;rw[hr0i.2.1];omega) (by show((mkB (le 4 bs.size)).size:Int)<=Si.room ((ks.length:Nat):Int);rw[hkr,hd4];omega) hfree;refine⟨(((Si.put ((6:UInt8),ks,mkB (le 4 bs.size))).2.1:Int),(Si.put ((6:UInt8),ks,mkB (le 4 bs.size))).2.2,()),rfl,?_⟩;rw[s1];refine zS k29 (by show 0<1;omega) ?_;have hg10:=yH w9 r2 0 (.int .i64 0);have oc:Only (fun k=>k=r2) w9 (w9.setCell ⟨r2,0,none⟩ (.int .i64 0)):=Only.z8 hg10 (fun j hj=>.inl (by injection hj with hj;exact hj.symm));have hr2F:¬F9 r2:=fun hf=>by
   rcases hF9w r2 hf with e|e
   ·exact hnF r2 (by omega) e
   ·omega
  obtain⟨Fd9,x9,hb9',hr9',nb9,nr9,m9,hS9⟩:=hAt9;have hS9':=hS9.only oc (fun j hj e=>hr2F (by rw[<- show j=r2 from e];exact hj));refine .inr ⟨_,_,rfl,by kernel_rfl,?_⟩;have hr1F:¬F9 r1:=fun hf=>by
   rcases hF9w r1 hf with e|e
   ·exact hnF r1 (by omega) e
   ·omega
  refine CallsDIn.mono (zei (c':=[]) (ks:=ks) (e:=0) hS9' (k19.only oc (by show ¬r1=r2;omega)) (k29.set 0 (.int .i64 0)) (k89.only oc (by show ¬r8=r2;omega)) (ho9.sl.only oc (fun a ha e=>(hA9 a ha).2.2.1 e)) (fun k hk=>by have:=(hP.mem hk).2.1;have:=h.dims.n;omega) hr1F hr2F (fun a ha=>(hA9 a ha).2.2.2.2) (fun e=>absurd rfl e)) ?_;rintro e u' w11 ⟨hu,hR⟩;refine⟨hu,?_⟩;cases e with
  |returned v=>
   obtain⟨p1,p2,p3⟩:=hR;refine zo (x:=(0:Int)) p3 (by rfl) (.inr (.inl ⟨hmost,by rw[hm];omega,Si,_,ks,_,by rw[hm];exact hP,s2,s3,rfl,F9,?_,fun k hk=>?_,?_⟩))
   ·rw[if_pos rfl]at p1;exact p1.zeU
   ·rcases hF9w k hk with e|e
    ·exact .inl e
    ·exact .inr (Nat.le_trans he5'.size e)
   ·have o10:Only F w (w9.setCell ⟨r2,0,none⟩ (.int .i64 0)):=Only.trans o9 oc (fun j hj=>.inr (by have:j=r2:=hj;omega));exact Only.trans o10 p2 (fun j hj=>by
     rcases hF9w j hj with e|e
     ·exact .inl e
     ·exact .inr (Nat.le_trans he5'.size e))
  |panicked c=>exact hR.elim
  |outgrown=>exact hR.elim
 ·have e9:=zgT (S:=Si) (R:=R) (p:=((6:UInt8),ks,mkB (le 4 bs.size))) hP.good (show 3<=(6:UInt8).toNat by decide) (by show((ks.length:Nat):Int)<=_;rw[hr0i.2.1];omega) (by show((mkB (le 4 bs.size)).size:Int)<=Si.room ((ks.length:Nat):Int);rw[hkr,hd4];omega) (by omega);rw[e9]at hAt9 ⊢;refine⟨((0:Int),(9:Int),()),rfl,?_⟩;exact fail i hik hP hAt9 hF9w o9 (by omega) k19 k29 k89 ho9.sl hA9
end V
/- Contracts of the package tree:used,part,put. -/
namespace V
open Go Go.Proofs Go.RowKit Crc
variable {w w':World} {b db:Nat} {S:Spa} {F:Nat->Prop} {R H:List Nat} {M:Option (List Nat)}
theorem zmH.good {S S':Spa} {p:Page} {R H:List Nat} {M:Option (List Nat)} {n:Nat} {e:Int} (h:zmH S S' p R H M n e) (hd:(p.2.2.size:Int)<=S.room p.2.1.length) (hf:S.sup.pages.length<S.zQ):e=0/\kZ S S' p n/\Great S' (n::R) H M/\∀ q∈S'.dev.pen,q∈S.dev.pen\/q.1=(n:Int):=by
 rcases h with ⟨_,_,_,h⟩|⟨_,_,_,h⟩|h
 ·omega
 ·omega
 ·exact⟨h.1,h.2.1,h.2.2.1,h.2.2.2.1⟩
theorem zhX (h:zV w b db S F) {n:Nat} (hg:Great S R H M) (hu:zE S.sup.pages S.now n=true) (h6:S.now.getD n 0<65535):
  Calls prog 134 #[.pointer (some ⟨b,0,none⟩),.int .u64 (n:Int)] w (Ret fun v w'=>v=.bool true/\yw w b db F S w'):=by
 have hnN:=hg.good.well.lt hu;have hN:=hg.good.dims.n;have hw:wrap .u32 (n:Int)=(n:Int):=by rw[wrap_u32];omega
 apply zlx;unfold S134;refine zd (decide_eq_false (by omega)) ?_;rw[hw];refine zb (zgV h hg hu h6) ?_;rintro _ w1 ⟨rfl,hg1,F1,h1,hF1,hO1⟩;refine⟨_,rfl,zf (by rfl) ?_⟩;refine zb (ziA h1 hg1) ?_;rintro _ w2 ⟨rfl,c',hg2,hst,hD,hle⟩;refine⟨_,rfl,rfl,?_⟩;have hlen:n<S.now.length:=by rw[hg.good.well.len];exact hnN
 obtain⟨u1,u2,u3⟩:=zI.1 hu;have e1:(S.now.set n (S.now.getD n 0+1)).getD n 0=S.now.getD n 0+1:=by rw[yr,if_pos ⟨rfl,hlen⟩]
 have hu1:zE S.sup.pages (S.now.set n (S.now.getD n 0+1)) n=true:=zI.2 ⟨u1,u2,by rw[e1];omega⟩;have ec:c'=S.now:=by
  have hz:atE (S.now.set n (S.now.getD n 0+1)) n=0:=zbj hg1.good.well hu1;rcases hD.inv with ⟨_,a1,_⟩|⟨_,_,a1⟩|⟨a1,_⟩|⟨a1,_⟩|⟨a1,_⟩
  ·exact absurd hz a1
  ·have a2:xk (S.now.set n (S.now.getD n 0+1)) n=S.now:=by
    rw[zce hg1.good.well hu1,List.set_set];refine qA (by rw[length_set]) (fun k=>?_);rw[yr,e1];split
    ·rename_i hh;rw[<- hh.1];omega
    ·rfl
   rw[a2]at a1;cases a1;rfl
  ·have:(S.now.set n (S.now.getD n 0+1)).getD n 0=1:=a1;omega
  ·have:(S.now.set n (S.now.getD n 0+1)).getD n 0=1:=a1;omega
  ·have:(S.now.set n (S.now.getD n 0+1)).getD n 0=1:=a1;omega
 subst ec;exact yw.trans hO1 hF1 hst
theorem zda {t:UInt8} (ht:t≠4) {x y z:SLC} {i j:Nat} (hij:i<=j) (hx:j<=x.2.2) (hz:j<=z.2.2):
  Calls prog 206 #[.agg (ndV t x y z).toArray,.int .i64 (i:Int),.int .i64 (j:Int)] w (Ret fun v w'=>v=.agg (ndV t (zm x.1 i x.2.2 1,j-i,x.2.2-i) (none,0,0) (zm z.1 i z.2.2 1,j-i,z.2.2-i)).toArray/\Ext w w'):=by
 apply zl9;unfold S206;refine zr fun r1 w1 hb1 he1 hr1 hz1=>?_;refine zr fun r2 w2 hb2 he2 hr2 hz2=>?_;refine zM fun w3 he3 hz3 hh3=>?_;have hb1:Blk w3 r1 (ndV t x y z) 215:=(hb1.ext he2).ext he3;have hb2:=hb2.ext he3;refine zF ((t.toNat:Nat):Int) hb1 (by rfl) ?_;refine zn 1 x hb1 (by rfl) ?_;refine zK ⟨by omega,by omega,by omega⟩ ?_;refine zr fun r5 w4 hb5 he4 hr5 hz5=>?_;have hb1:=hb1.ext he4;have hb2:=hb2.ext he4;have he:=((he1.trans he2).trans he3).trans he4;refine js (yM hb1 rfl) (yd hb1 rfl) ?_;rw[Int.toNat_natCast,Int.toNat_natCast];refine refill (vs:=ndV t (zm x.1 i x.2.2 1,j-i,x.2.2-i) (none,0,0) (none,0,0)) hb5 (by rfl) (jb _ _ _ _) (by rfl) ?_;intro w5 hb5 hx5 hk5 hz6;have hl1:=hb1.lt;have hl2:=hb2.lt;have hs4:=he4.size;have hs3:=he3.size;have he5:Ext w w5:=hx5 w he (by omega);have hb1:Blk w5 r1 (ndV t x y z) 215:=(hk5 r1 (by omega)).trans hb1;have hb2:=show Blk w5 r2 _ _ from(hk5 r2 (by omega)).trans hb2
 refine zZ (ls:=qS) (ndT t x y z) hb1 (by rfl) ?_;refine zb zau ?_;rintro _ w6 ⟨rfl,he6⟩;refine⟨_,rfl,?_⟩;refine zf (bne_iff_ne.2 (fun e=>ht (UInt8.toNat_inj.1 (by show _=4;omega)))) ?_;have hb1:=hb1.ext he6;have hb2:=hb2.ext he6;have hb5:=hb5.ext he6;have he6':=he5.trans he6;refine zn 3 z hb1 (by rfl) ?_;refine zK ⟨by omega,by omega,by omega⟩ ?_;refine stE (o:=3) hb5 (by rw[zy]) (by show 3<4;omega) ?_;intro w7 hb7 o7;have hb7:Blk w7 r5 (ndV t (zm x.1 i x.2.2 1,j-i,x.2.2-i) (none,0,0) (zm z.1 i z.2.2 1,j-i,z.2.2-i)) 215:=hb7;have he7:Ext w w7:=Only.ext he6' o7 (fun k hk=>by have:k=r5:=hk;omega);refine zZ (ls:=qS) (ndT t (zm x.1 i x.2.2 1,j-i,x.2.2-i) (none,0,0) (zm z.1 i z.2.2 1,j-i,z.2.2-i)) hb7 (by rfl) ?_;have hb2:=hb2.only o7 (by omega);refine refill (vs:=ndV t (zm x.1 i x.2.2 1,j-i,x.2.2-i) (none,0,0) (zm z.1 i z.2.2 1,j-i,z.2.2-i)) hb2 (by rfl) (jb _ _ _ _) (by rfl) ?_;intro w8 hb8 hx8 hk8 hz8;refine zZ (ls:=qS) (ndT t (zm x.1 i x.2.2 1,j-i,x.2.2-i) (none,0,0) (zm z.1 i z.2.2 1,j-i,z.2.2-i)) hb8 (by rfl) ?_;exact⟨rfl,hx8 w he7 (by omega)⟩
theorem zov {S:Spa} (h:uK S) {k:Nat} (hk:4*k<=S.r0):S.room k=(S.r0:Int)-4*k:=by
 obtain⟨h0,h1,h2,h3⟩:=xJ h;have:zD S.sup.size-2=(S.r0:Int):=by rw[h.room];omega
 unfold Spa.room;rw[this,if_neg (by omega)]
theorem zjx (a b:List Nat):k8B (a++b)=k8B a++k8B b:=by
 unfold k8B;rw[flatMap_append]
theorem zjy (h:zV w b db S F) {t:UInt8} (ht:t≠4) (ht3:3<=t.toNat) {ks vs:List Nat} {x y z:SLC} (hg:Great S (vs++R) H M) (hpen:S.dev.pen.length<=900000) (hkx:Sli (zu .u64) w x.1 x.2.1 ks) (hvz:Sli (zu .u32) w z.1 z.2.1 vs) (hA:∀ a,z.1=some a->¬F a.block)
  (hlen:ks.length=vs.length) (h64:∀ k∈ks,k<18446744073709551616) (hfit:12*ks.length<=S.r0) (hf:S.sup.pages.length<S.zQ):
  Calls prog 207 #[.agg (ndV t x y z).toArray,.pointer (some ⟨b,0,none⟩)] w (Ret fun v w'=>∃ (S':Spa) (k:Nat),v=.tuple #[.int .u32 (k:Int),.int .i64 0]/\kZ S S' (t,vs,mkB (k8B ks)) k/\Great S' (k::R) H M/\yw w b db F S' w'):=by
 obtain⟨q0,q1,q2,q3⟩:=xJ hg.good.dims;have hxl:=hkx.len;have hzl:=hvz.len;apply zma;unfold S207;refine zr fun r1 w1 hb1 he1 hr1 hz1=>?_;have hb1:Blk w1 r1 (ndV t x y z) 215:=hb1;refine zn 1 x hb1 (by rfl) ?_;dsimp only;refine zz (fun q w'=>∃ (i:Nat) (A:Option Addr) (c:Nat),i<=ks.length/\q=((A,8*i,c),(i:Int),())/\Ext w w'/\Ext w1 w'/\Own 5 w' w1.heap.size A (8*i) c (bV (k8B (ks.take i)))) (fun q=>(ks.length-q.2.1).toNat) ⟨0,none,0,by omega,rfl,he1,Ext.refl _,Own.nil _ _ _⟩ ?_;rintro _ w2 ⟨i,A,c,hi,rfl,he2,he12,ho⟩;dsimp only;have hb2:=hb1.ext he12
 by_cases hlt:i<ks.length
 ·refine zf (decide_eq_true (by omega)) ?_;refine zU (hkx.ext he2) (by omega) (by omega) ?_;rw[Int.toNat_natCast];have hk:ks.getD i 0<18446744073709551616:=by
   rw[getD_eq_getElem?_getD,List.getElem?_eq_getElem hlt];exact h64 _ (getElem_mem _)
  refine zb (xi (k:=8) ho he12.size (by omega) hk (by omega) (by omega)) ?_;rintro _ w3 ⟨u,rfl,ho3,hg3⟩;refine⟨u,rfl,?_⟩;have hb3:Blk w3 r1 (ndV t x y z) 215:=hb2.grown hg3.grown (fun hh=>by have:=ho.row' _ hh.symm;have:=hb1.lt;omega);have he3:Ext w w3:=he2.grown hg3.grown (fun j hj=>by have:=ho.row' _ hj;omega);have he13:Ext w1 w3:=he12.grown hg3.grown (fun j hj=>ho.row' _ hj);refine zZ (ls:=qS) (ndT t x y z) hb3 (by rfl) ?_;refine zb zau ?_;rintro _ w4 ⟨rfl,he4⟩;refine⟨_,rfl,?_⟩;refine zd (by rw[show(((t.toNat:Nat):Int) !=4)=true from bne_iff_ne.2 (fun e=>ht (UInt8.toNat_inj.1 (by show _=4;omega)))];rfl) ?_;have hul:u.2.1=8*(i+1):=by
   have h1:=ho3.sl.blen;rw[length_append,zv,ue,length_take]at h1;omega
  obtain⟨u1,u2,u3⟩:=u;dsimp only at hul ho3 ⊢;subst hul;refine⟨⟨i+1,u1,u3,by omega,by rw[wrap_i64 (by omega) (by omega)];rfl,he3.trans he4,he13.trans he4,?_⟩,by rw[wrap_i64 (by omega) (by omega)];omega⟩;have e:k8B (ks.take (i+1))=k8B (ks.take i)++le 8 (ks.getD i 0):=by
   rw[take_succ_eq_append_getElem hlt,zjx,getD_eq_getElem?_getD,List.getElem?_eq_getElem hlt];simp[k8B]
  rw[e];exact ho3.ext he4
 ·obtain rfl:i=ks.length:=by omega
  refine zd (decide_eq_false (by omega)) ?_;rw[take_of_length_le (by omega)]at ho;refine zF ((t.toNat:Nat):Int) hb2 (by rfl) ?_;refine zn 3 z hb2 (by rfl) ?_;refine qO (e:=5) (by kernel_rfl) (by kernel_rfl) (by kernel_rfl) ho.sl ?_;have hsz:(mkB (k8B ks)).size=8*ks.length:=by rw[yj,yW,ue]
  refine zb (zkw (p:=(t,vs,mkB (k8B ks))) (h.ext he2) hg hpen (hvz.ext he2) hA ht3 (by show(vs.length:Int)<=_;rw[q0];omega) (by show(mkB (k8B ks)).size<=_;omega)) ?_;rintro _ w3 ⟨S',k,e,rfl,hR,hst⟩;obtain⟨rfl,g1,g2,_⟩:=hR.good (by show((mkB (k8B ks)).size:Int)<=S.room vs.length;rw[zov hg.good.dims (by omega)];omega) hf;exact⟨((k:Int),0,()),rfl,S',k,rfl,g1,g2,yw.trans (Only.zB he2) (fun k hk=>.inl hk) hst⟩
end V
/- Contracts of the package tree:shut. -/
namespace V
open Go Go.Proofs Go.RowKit Crc
variable {w w':World} {b db:Nat} {S:Spa} {F:Nat->Prop} {R H:List Nat} {M:Option (List Nat)}
theorem zhY (h:zV w b db S F) (hd:uK S) {t:UInt8} (ht:t≠4):Calls prog 205 #[.pointer (some ⟨b,0,none⟩),.int .u8 (t.toNat:Int)] w (Ret fun v w'=>v=.int .i64 ((S.r0 / 12:Nat):Int)/\Ext w w'):=by
 obtain⟨q0,q1,q2,q3⟩:=xJ hd;apply zl8;unfold S205;refine zd (beq_eq_false_iff_ne.2 (fun e=>ht (UInt8.toNat_inj.1 (by show _=4;omega)))) ?_;obtain⟨Fd,x,hb,hr,nb,nr,m,h'⟩:=h;refine zb (qQ h' (k:=0) (by omega) (by omega)) ?_;rintro _ w1 ⟨rfl,he⟩;refine⟨_,rfl,?_,he⟩;rw[q0,show Int.tdiv ((S.r0:Nat):Int) 12=((S.r0 / 12:Nat):Int) from rfl,wrap_i64 (by omega) (by omega)]
theorem Owni.ne {α β:Type} {E:Enc α} {E':Enc β} {e e':TypeId} {w:World} {B B' n n' c c':Nat} {A A':Option Addr} {xs:List α} {ys:List β} (h:Owni E e w B A n c xs) (h':Owni E' e' w B' A' n' c' ys) (he:e≠e'):∀ j,orow A=some j->orow A'≠some j:=by
 intro j hj hj';rcases h.2 with ⟨hv,_⟩|⟨g,cap,cur,hv,_,hg,_⟩
 ·injection hv with hv;subst hv;cases hj
 ·rcases h'.2 with ⟨hv',_⟩|⟨g',cap',cur',hv',_,hg',_⟩
  ·injection hv' with hv';subst hv';cases hj'
  ·injection hv with hv
   injection hv' with hv'
   subst hv;subst hv';have e1:g=j:=Option.some.inj hj;have e2:g'=j:=Option.some.inj hj';subst e1;subst e2;rw[hg]at hg';injection hg' with hg'
   injection hg' with _ e3 _
   exact he e3
def lo (n N i:Nat):Nat:=i*n / N
def prt (n N i:Nat) (l:List Nat):List Nat:=(l.drop (lo n N i)).take (lo n N (i+1)-lo n N i)
theorem ziB (n N:Nat):lo n N 0=0:=by simp[lo]
theorem zkx {n N:Nat} (hN:1<=N):lo n N N=n:=by unfold lo;exact Nat.mul_div_cancel_left n (by omega)
theorem zgY {n N i fit:Nat} (hf:2<=fit) (hN1:1<=N) (hN2:N<=2) (hNn:N<=n) (hn:n<=N*fit) (hi:i<N):lo n N i<lo n N (i+1)/\lo n N (i+1)<=n/\lo n N (i+1)-lo n N i<=fit:=by
 unfold lo;rcases (show N=1\/N=2 by omega) with rfl|rfl
 ·obtain rfl:i=0:=by omega
  simp;omega
 ·rcases (show i=0\/i=1 by omega) with rfl|rfl<;>simp<;>omega
theorem zky {n N i:Nat} {l:List Nat} (h:lo n N i<=lo n N (i+1)):prt n N i l++l.drop (lo n N (i+1))=l.drop (lo n N i):=by
 unfold prt
 conv=>rhs;rw[<- List.take_append_drop (lo n N (i+1)-lo n N i) (l.drop (lo n N i))]
 rw[drop_drop,show lo n N i+(lo n N (i+1)-lo n N i)=lo n N (i+1) by omega]
theorem zkz {w:World} {r:Nat} {t:UInt8} {x y z:SLC} {ty:TypeId} (h:Blk w r (ndV t x y z) ty):∀ p∈[((aD r).add 0,Value.int .u8 (t.toNat:Int)),((aD r).add 1,.slice x.1 x.2.1 x.2.2),((aD r).add 2,.slice y.1 y.2.1 y.2.2),((aD r).add 3,.slice z.1 z.2.1 z.2.2)],w.cell? p.1=some p.2:=by
 intro p hp;simp only [mem_cons,not_mem_nil,or_false]at hp;rcases hp with rfl|rfl|rfl|rfl<;>simp only [zy,h.cell]<;>rfl
def zej (S:Spa) (t:UInt8) (n N i:Nat) (ks vs ps:List Nat):Prop:=∀ j,j<i->S.page (ps.getD j 0)=((t,prt n N j vs,mkB (k8B (prt n N j ks))),0)/\zE S.sup.pages S.now (ps.getD j 0)=true
theorem zfw {A:Option Addr} {l m z:Nat} {a:Addr} (h:zm A l m z=some a):∃ a0,A=some a0/\a.block=a0.block:=by
 unfold zm at h;split at h
 ·exact⟨a,h,rfl⟩
 ·cases A with
  |none=>cases h
  |some a0=>
   injection h with h
   refine⟨a0,rfl,?_⟩;rw[<- h];show(a0.add (l*z)).block=a0.block;unfold Addr.add;split<;>rfl
theorem vc {n N i:Nat} {l:List Nat} (hl:l.length=n) (h2:lo n N (i+1)<=n) (h1:lo n N i<=lo n N (i+1)):(prt n N i l).length=lo n N (i+1)-lo n N i:=by
 unfold prt;rw[length_take,length_drop];omega
theorem ziC {n N i:Nat} {l:List Nat}:∀ k∈prt n N i l,k∈l:=fun k hk=>List.mem_of_mem_drop (List.mem_of_mem_take hk)
theorem zow {n N i:Nat} {l:List Nat} (h:lo n N i<lo n N (i+1)):(prt n N i l).getD 0 0=l.getD (lo n N i) 0:=by
 unfold prt;rw[getD_take (by omega),vS,Nat.add_zero]
theorem Sli.prt {k:IntKind} {w:World} {x:SLC} {l:List Nat} {n N i:Nat} (h:Sli (zu k) w x.1 x.2.1 l) (hc:x.2.1<=x.2.2) (hn:l.length=n) (h2:lo n N (i+1)<=n) (h1:lo n N i<lo n N (i+1)):Sli (zu k) w (zm x.1 (lo n N i) x.2.2 1) (lo n N (i+1)-lo n N i) (V.prt n N i l):=by
 have hl:=h.len;exact h.cut (l:=lo n N i) (k:=lo n N (i+1)-lo n N i) (m:=x.2.2) (z:=1) rfl (by omega) (by omega)
theorem zej.next {S S':Spa} {t:UInt8} {n N i k:Nat} {ks vs ps:List Nat} (h:zej S t n N i ks vs ps) (hp:kZ S S' (t,prt n N i vs,mkB (k8B (prt n N i ks))) k) (hg:Good S R) (hl:ps.length=i):zej S' t n N (i+1) ks vs (ps++[k]):=by
 have hlen:k<S.now.length:=by rw[hg.well.len];exact hp.lt
 intro j hj
 by_cases e:j<i
 ·obtain⟨h1,h2⟩:=h j e;have e1:(ps++[k]).getD j 0=ps.getD j 0:=by rw[getD_eq_getElem?_getD,List.getElem?_append_left (by omega),<- getD_eq_getElem?_getD]
  rw[e1];obtain⟨u1,u2,u3⟩:=zI.1 h2;have hne:ps.getD j 0≠k:=fun e=>by
   have:=(zP.1 hp.free).1;rw[<- e]at this;omega
  refine⟨(hp.other _ hne (hg.well.lt h2)).trans h1,?_⟩;rw[hp.sup];refine zI.2 ⟨u1,u2,?_⟩;rw[hp.now,yr,if_neg (fun e=>hne e.1.symm)];exact u3
 ·obtain rfl:j=i:=by omega
  have e1:(ps++[k]).getD j 0=k:=by rw[getD_eq_getElem?_getD,List.getElem?_append_right (by omega),hl,Nat.sub_self];rfl
  rw[e1,hp.sup];refine⟨hp.page,zI.2 ⟨hp.two,hp.pgs,?_⟩⟩;rw[hp.now,yr,if_pos ⟨rfl,hlen⟩];omega
theorem zdb (h:zV w b db S F) {t:UInt8} (ht:t≠4) (ht3:3<=t.toNat) {ks vs:List Nat} {x y z:SLC} {N:Nat} (hg:Great S (vs++R) H M) (hpen:S.dev.pen.length<=800000) (hkx:Sli (zu .u64) w x.1 x.2.1 ks) (hxc:x.2.1<=x.2.2) (hvz:Sli (zu .u32) w z.1 z.2.1 vs) (hzc:z.2.1<=z.2.2)
  (hxF:∀ a,x.1=some a->¬F a.block/\a.block<w.heap.size) (hzF:∀ a,z.1=some a->¬F a.block/\a.block<w.heap.size)
  (hlen:ks.length=vs.length) (h64:∀ k∈ks,k<18446744073709551616) (hN:N=(ks.length+S.r0 / 12-1) / (S.r0 / 12)) (hN1:1<=N) (hN2:N<=2) (hNn:N<=ks.length) (hf:S.sup.pages.length+N<=S.zQ):
  Calls prog 172 #[.agg (ndV t x y z).toArray,.pointer (some ⟨b,0,none⟩)] w (Ret fun v w'=>∃ (S':Spa) (F':Nat->Prop) (ps:List Nat) (A A2:Option Addr) (c c2:Nat),v=.tuple #[.slice A N c,.slice A2 N c2,.int .i64 0]/\ps.length=N/\Mk S S' ps/\Great S' (ps++R) H M/\zej S' t ks.length N N ks vs ps/\
   zV w' b db S' F'/\(∀ k,F' k->F k\/w.heap.size<=k)/\Only F w w'/\Owni (zu .u64) 42 w' w.heap.size A N c ((List.range N).map fun i=>ks.getD (lo ks.length N i) 0)/\Owni (zu .u32) 41 w' w.heap.size A2 N c2 ps/\(∀ j,orow A=some j->¬F' j)/\(∀ j,orow A2=some j->¬F' j)):=by
 obtain⟨q0,q1,q2,q3⟩:=xJ hg.good.dims;have hxl:=hkx.len;have hzl:=hvz.len;have hfit:9<=S.r0 / 12/\S.r0 / 12<=339:=by omega
 have hnN:ks.length<=N*(S.r0 / 12):=by
  subst hN;have d1:=Nat.div_add_mod (ks.length+S.r0 / 12-1) (S.r0 / 12);have d2:=Nat.mod_lt (ks.length+S.r0 / 12-1) (show 0<S.r0 / 12 by omega);rw[Nat.mul_comm]at d1;omega
 have hn678:ks.length<=678:=by
  have:N*(S.r0 / 12)<=2*339:=Nat.mul_le_mul hN2 hfit.2;omega
 have hlo:∀ i,i<N->lo ks.length N i<lo ks.length N (i+1)/\lo ks.length N (i+1)<=ks.length/\lo ks.length N (i+1)-lo ks.length N i<=S.r0 / 12:=fun i hi=>zgY (by omega) hN1 hN2 hNn hnN hi;apply zlU;unfold S172;refine zr fun r1 w1 hb1 he1 hr1 hz1=>?_;have hb1:Blk w1 r1 (ndV t x y z) 215:=hb1;refine zF ((t.toNat:Nat):Int) hb1 (by rfl) ?_;refine zb (zhY (h.ext he1) hg.good.dims ht) ?_;rintro _ w2 ⟨rfl,he2⟩;refine⟨_,rfl,?_⟩;have he02:=he1.trans he2;have hb2:=hb1.ext he2;have hs1:=he1.size;have hs2:=he2.size;refine zd (decide_eq_false (by omega)) ?_;refine zn 1 x hb2 (by rfl) ?_;refine zK (by omega) ?_;have eN:wrap .i64 (Int.tdiv (wrap .i64 (wrap .i64 (((x.2.1:Nat):Int)+((S.r0 / 12:Nat):Int))-1)) ((S.r0 / 12:Nat):Int))=(N:Int):=by
  rw[wrap_i64 (x:=((x.2.1:Nat):Int)+((S.r0 / 12:Nat):Int)) (by omega) (by omega),wrap_i64 (x:=((x.2.1:Nat):Int)+((S.r0 / 12:Nat):Int)-1) (by omega) (by omega)];rw[show((x.2.1:Nat):Int)+((S.r0 / 12:Nat):Int)-1=((ks.length+S.r0 / 12-1:Nat):Int) by omega,show Int.tdiv ((ks.length+S.r0 / 12-1:Nat):Int) ((S.r0 / 12:Nat):Int)=(((ks.length+S.r0 / 12-1) / (S.r0 / 12):Nat):Int) from rfl,<- hN,wrap_i64 (by omega) (by omega)]
 rw[eN];have hFlt:=h.lt;refine zz (fun q w'=>∃ (i:Nat) (Si:Spa) (Fi:Nat->Prop) (ps:List Nat) (A A2:Option Addr) (c c2:Nat),i<=N/\q=((A,i,c),(A2,i,c2),(i:Int),())/\ps.length=i/\Mk S Si ps/\Great Si (vs.drop (lo ks.length N i)++(ps++R)) H M/\zej Si t ks.length N i ks vs ps/\zV w' b db Si Fi/\(∀ k,Fi k->F k\/w2.heap.size<=k)/\Only F w w'/\w2.heap.size<=w'.heap.size/\Blk w' r1 (ndV t x y z) 215/\
   Owni (zu .u64) 42 w' w2.heap.size A i c ((List.range i).map fun i=>ks.getD (lo ks.length N i) 0)/\Owni (zu .u32) 41 w' w2.heap.size A2 i c2 ps/\(∀ j,orow A=some j->¬Fi j)/\(∀ j,orow A2=some j->¬Fi j)) (fun q=>(N-q.2.2.1).toNat)
  ⟨0,S,F,[],none,none,0,0,by omega,rfl,rfl,Mk.refl S,by rw[ziB];exact hg,fun j hj=>by omega,h.ext he02,fun k hk=>.inl hk,Only.zB he02,Nat.le_refl _,hb2,Owni.nil _ _ _,Owni.nil _ _ _,fun j hj=>(by cases hj),fun j hj=>(by cases hj)⟩ ?_
 rintro _ w3 ⟨i,Si,Fi,ps,A,A2,c,c2,hi,rfl,hpl,hMk,hGi,hPg,hSi,hFi,hO,hs3,hb3,hoA,hoB,hAF,hBF⟩;dsimp only
 by_cases hlt:i<N
 ·refine zf (decide_eq_true (by omega)) ?_;obtain⟨l1,l2,l3⟩:=hlo i hlt;refine zM fun w4 he4 hz4 hh4=>?_;have hb4:=hb3.ext he4;refine zZ (ls:=qS) (ndT t x y z) hb4 (by rfl) ?_;refine zn 1 x hb4 (by rfl) (zK (by omega) ?_);refine zn 1 x hb4 (by rfl) (zK (by omega) ?_);have hiN:i*ks.length<=1356:=by
   have:i*ks.length<=2*678:=Nat.mul_le_mul (by omega) hn678;omega
  have hiN2:(i+1)*ks.length<=1356:=by
   have:(i+1)*ks.length<=2*678:=Nat.mul_le_mul (by omega) hn678;omega
  have ew:∀ j,j*ks.length<=1356->wrap .i64 (Int.tdiv (wrap .i64 ((j:Int)*((x.2.1:Nat):Int))) (N:Int))=((lo ks.length N j:Nat):Int):=fun j hj=>by
   rw[<- hxl,<- Int.natCast_mul,wrap_i64 (x:=((j*ks.length:Nat):Int)) (by omega) (by omega),show Int.tdiv ((j*ks.length:Nat):Int) (N:Int)=((j*ks.length / N:Nat):Int) from rfl];have:lo ks.length N j<=j*ks.length:=Nat.div_le_self _ _;show wrap .i64 ((lo ks.length N j:Nat):Int)=_;exact wrap_i64 (by omega) (by omega)
  have ei:wrap .i64 ((i:Int)+1)=((i+1:Nat):Int):=by rw[wrap_i64 (by omega) (by omega)];rfl
  rw[ei,show(ndT t x y z).2.1.2.1=x.2.1 from rfl];rw[ew i hiN,ew (i+1) hiN2];have hw4:=he4.size;have hl4:=hb4.lt
  -- both orders come to the same
  refine⟨?a,?b⟩
  case' a=>
   refine zb (zda ht (x:=x) (y:=y) (z:=z) (i:=lo ks.length N i) (j:=lo ks.length N (i+1)) (by omega) (by omega) (by omega)) ?_;rintro _ w5 ⟨rfl,he5⟩;refine⟨ndT t (zm x.1 (lo ks.length N i) x.2.2 1,lo ks.length N (i+1)-lo ks.length N i,x.2.2-lo ks.length N i) (none,0,0) (zm z.1 (lo ks.length N i) z.2.2 1,lo ks.length N (i+1)-lo ks.length N i,z.2.2-lo ks.length N i),rfl,?_⟩;refine zr fun rB wB hbB heB hrB hzB=>?_;have heB:=he5.trans heB;have hb5:=hb4.ext heB;refine zoY (yM hb5 rfl) (yM hb5 rfl) (zkz hb5) ?_;have hrB:w4.heap.size<=rB:=by have:=he5.size;omega
  case' b=>
   refine zr fun rB wB' hbB heB' hrB hzB=>?_;have hb5:=hb4.ext heB';refine zoY (yM hb5 rfl) (yM hb5 rfl) (zkz hb5) ?_;refine zb (zda ht (x:=x) (y:=y) (z:=z) (i:=lo ks.length N i) (j:=lo ks.length N (i+1)) (by omega) (by omega) (by omega)) ?_;rintro _ wB ⟨rfl,he5⟩;refine⟨ndT t (zm x.1 (lo ks.length N i) x.2.2 1,lo ks.length N (i+1)-lo ks.length N i,x.2.2-lo ks.length N i) (none,0,0) (zm z.1 (lo ks.length N i) z.2.2 1,lo ks.length N (i+1)-lo ks.length N i,z.2.2-lo ks.length N i),rfl,?_⟩;have heB:=heB'.trans he5;have hb5:=hb4.ext heB;have hbB:=hbB.ext he5;have hrB:w4.heap.size<=rB:=by omega
  all_goals
   refine refill (vs:=ndV t (zm x.1 (lo ks.length N i) x.2.2 1,lo ks.length N (i+1)-lo ks.length N i,x.2.2-lo ks.length N i) (none,0,0) (zm z.1 (lo ks.length N i) z.2.2 1,lo ks.length N (i+1)-lo ks.length N i,z.2.2-lo ks.length N i)) hbB (by rfl) (jb _ _ _ _) (by rfl) ?_;intro w6 hb6 hx6 hk6 hz6;have he46:Ext w4 w6:=hx6 w4 heB hrB;have he36:=he4.trans he46;have hs46:=he46.size;have hS6:=hSi.ext he36;have hSlt:=hSi.lt;have o06:Only F w w6:=Only.trans hO (Only.zB (F:=F) he36) (fun j hj=>.inl hj);refine zZ (ls:=qS) (ndT t (zm x.1 (lo ks.length N i) x.2.2 1,lo ks.length N (i+1)-lo ks.length N i,x.2.2-lo ks.length N i) (none,0,0) (zm z.1 (lo ks.length N i) z.2.2 1,lo ks.length N (i+1)-lo ks.length N i,z.2.2-lo ks.length N i)) hb6 (by rfl) ?_;have hk6:Sli (zu .u64) w6 (zm x.1 (lo ks.length N i) x.2.2 1) (lo ks.length N (i+1)-lo ks.length N i) (prt ks.length N i ks):=(hkx.only o06 (fun a ha=>(hxF a ha).1)).prt hxc rfl l2 l1;have hv6:Sli (zu .u32) w6 (zm z.1 (lo ks.length N i) z.2.2 1) (lo ks.length N (i+1)-lo ks.length N i) (prt ks.length N i vs):=(hvz.only o06 (fun a ha=>(hzF a ha).1)).prt hzc hlen.symm l2 l1;have hnFi:∀ j,¬F j->j<w2.heap.size->¬Fi j:=fun j h1 h2 hf=>by
    rcases hFi j hf with e|e
    ·exact h1 e
    ·omega
   have hsp:=hMk.sup;have hfr:=hMk.free;have hr0:=hMk.r0;have hpn:=hMk.pen;have hGi':Great Si (prt ks.length N i vs++(vs.drop (lo ks.length N (i+1))++(ps++R))) H M:=by
    rw[<- append_assoc,zky (Nat.le_of_lt l1)];exact hGi
   have hpll:=vc (l:=ks) (N:=N) (i:=i) rfl l2 (Nat.le_of_lt l1);have hpll2:=vc (l:=vs) (N:=N) (i:=i) hlen.symm l2 (Nat.le_of_lt l1);refine zb (zjy hS6 ht ht3 hGi' (by omega) hk6 hv6 (fun a ha=>?_) (by rw[hpll,hpll2]) (fun k hk=>h64 k (ziC k hk)) (by rw[hpll,hr0];omega) (by rw[hsp];omega)) ?_
   ·obtain⟨a0,h1,h2⟩:=zfw ha;have:=hzF a0 h1;rw[h2];exact hnFi _ this.1 (by omega)
   rintro _ w7 ⟨S',k,rfl,hP,hG7,F7,hS7,hF7,hO7⟩;refine⟨((k:Int),0,()),rfl,zd (by rfl) ?_⟩;have hs67:=hO7.2.2.2.1;have hb7:=hb6.only hO7 (fun hf=>by have:=hSlt _ hf;omega);have hrn:∀ a,zm x.1 (lo ks.length N i) x.2.2 1=some a->¬Fi a.block:=fun a ha=>by
    obtain⟨a0,h1,h2⟩:=zfw ha;have:=hxF a0 h1;rw[h2];exact hnFi _ this.1 (by omega)
   refine zn 1 ((zm x.1 (lo ks.length N i) x.2.2 1,lo ks.length N (i+1)-lo ks.length N i,x.2.2-lo ks.length N i):SLC) hb7 (by rfl) ?_;refine zU (hk6.only hO7 hrn) (by omega) (by dsimp only;omega) ?_;rw[show Int.toNat 0=0 from rfl,zow l1];have hA7:=(hoA.ext he36).only hO7 hAF;have hB7:=(hoB.ext he36).only hO7 hBF;refine xa (E:=zu .u64) (ys:=[ks.getD (lo ks.length N i) 0]) (by rfl) rfl kE hA7 (by omega) (by omega) (by omega) ?_;intro A3 c3 w8 hA8 hg8;have hs78:=hg8.grown.size;have hB8:=hB7.grown hg8.grown (fun j hj=>hA7.ne hB7 (by decide) j hj);refine xa (E:=zu .u32) (ys:=[k]) (by rfl) rfl jF hB8 (by omega) (by omega) (by omega) ?_;intro A4 c4 w9 hB9 hg9;have hs89:=hg9.grown.size;have hA9:=hA8.grown hg9.grown (fun j hj=>hB8.ne hA8 (by decide) j hj);have hrA:∀ j,orow A=some j->¬F7 j:=fun j hj hf=>by
    have:=hoA.yc j hj;rcases hF7 j hf with e|e
    ·exact hAF j hj e
    ·omega
   have hrB':∀ j,orow A2=some j->¬F7 j:=fun j hj hf=>by
    have:=hoB.yc j hj;rcases hF7 j hf with e|e
    ·exact hBF j hj e
    ·omega
   have h7lt:=hS7.lt;have o79:Only (fun j=>orow A=some j\/orow A2=some j) w7 w9:=Only.trans (Only.z8 hg8.grown (fun j hj=>.inl (.inl hj))) (Only.z8 (F:=fun j=>orow A2=some j) hg9.grown (fun j hj=>.inl hj)) (fun j hj=>.inl (.inr hj));have hF72:∀ k,F7 k->F k\/w2.heap.size<=k:=fun k hk=>by
    rcases hF7 k hk with e|e
    ·exact hFi k e
    ·exact .inr (by omega)
   have hF2w:∀ k,Fi k->F k\/w.heap.size<=k:=fun k hk=>by
    rcases hFi k hk with e|e
    ·exact .inl e
    ·exact .inr (by omega)
   have hO9:Only F w w9:=Only.trans (Only.trans o06 hO7 hF2w) o79 (fun j hj=>.inr (by
    rcases hj with e|e
    ·have:=hoA.row j e;omega
    ·have:=hoB.row j e;omega))
   have hb9:Blk w9 r1 (ndV t x y z) 215:=((hb3.ext he36).only hO7 (hnFi _ (fun hf=>by have:=hFlt _ hf;omega) (by have:=hb2.lt;omega))).only o79 (fun hj=>by
    rcases hj with e|e
    ·have:=hoA.row _ e;have:=hb2.lt;omega
    ·have:=hoB.row _ e;have:=hb2.lt;omega)
   refine⟨⟨i+1,S',F7,ps++[k],A3,A4,c3,c4,by omega,rfl,by rw[length_append,hpl];rfl,hMk.trans (hP.mk_ hGi.good.well.len),?_,hPg.next hP hGi.good hpl,hS7.only o79 (fun j hj e=>by
    rcases e with e|e
    ·exact hrA j e hj
    ·exact hrB' j e hj),hF72,hO9,by omega,hb9,?_,hB9,fun j hj hf=>?_,fun j hj hf=>?_⟩,by omega⟩
   ·refine hG7.perm ?_;rw[show vs.drop (lo ks.length N (i+1))++((ps++[k])++R)=(vs.drop (lo ks.length N (i+1))++ps)++k::R by simp,<- append_assoc (vs.drop (lo ks.length N (i+1)))];exact List.perm_middle.symm
   ·rw[range_succ,map_append];exact hA9
   ·rcases hg8.next j hj with e|e
    ·exact hrA j e hf
    ·have:=h7lt j hf;omega
   ·rcases hg9.next j hj with e|e
    ·exact hrB' j e hf
    ·have:=h7lt j hf;omega
 ·obtain rfl:i=N:=by omega
  refine zd (decide_eq_false (by omega)) ?_;rw[zkx hN1,drop_of_length_le (by omega)]at hGi;refine⟨Si,Fi,ps,A,A2,c,c2,rfl,hpl,hMk,hGi,hPg,hSi,fun k hk=>?_,hO,hoA.lower (by omega),hoB.lower (by omega),hAF,hBF⟩;rcases hFi k hk with e|e
  ·exact .inl e
  ·exact .inr (by omega)
end V
/- Contracts of the package tree:root,Build. -/
namespace V
open Go Go.Proofs Go.RowKit Crc
variable {w w':World} {b db:Nat} {S:Spa} {F:Nat->Prop} {R H:List Nat} {M:Option (List Nat)}
theorem zgZ {x y z:SLC} {k:Nat} {deep:Nat} (hx:x.2.1=1) (hz:Sli (zu .u32) w z.1 z.2.1 [k]):Calls prog 135 #[.agg (ndV 3 x y z).toArray,.pointer (some ⟨b,0,none⟩),.int .i64 (deep:Int)] w (Ret fun v w'=>v=.tuple #[.int .u32 (k:Int),.int .i64 0]/\Ext w w'):=by
 have hzl:1=z.2.1:=hz.len;apply zds;unfold S135;refine zr fun r1 w1 hb1 he1 hr1 hz1=>?_;have hb1:Blk w1 r1 (ndV 3 x y z) 215:=hb1;refine yk (fun _ _=>False) (fun _ _ h=>h.elim) (fun J hJ=>?_);refine zn 1 x hb1 (by rfl) ?_;refine zd (beq_eq_false_iff_ne.2 (by omega)) ?_;refine zZ (ls:=qS) (ndT 3 x y z) hb1 (by rfl) ?_;refine zb qn ?_;rintro _ w2 ⟨rfl,he2⟩;refine⟨_,rfl,zf (by rfl) ?_⟩;have hb2:=hb1.ext he2;have he:=he1.trans he2;refine zn 3 z hb2 (by rfl) (zf (beq_iff_eq.2 (by omega)) ?_);refine zn 3 z hb2 (by rfl) ?_;refine zU (hz.ext he) (by omega) (by omega) ?_;exact⟨rfl,he⟩
structure ziD (S S':Spa) (n:Nat) (ks vs ls R H:List Nat) (M:Option (List Nat)):Prop where
 made:Mk S S' ls
 great:Great S' (n::R) H M
 tree:vb S' n ks vs
 few:ls.length<=3
theorem zcJ {n:Nat} {l:List Nat} (h:l.length=n):prt n 1 0 l=l:=by
 unfold prt lo;subst h;simp
theorem zox (h:zV w b db S F) {k0 k1 p q:Nat} {x y z:SLC} (hg:Great S ([p,q]++R) H M) (hpen:S.dev.pen.length<=800000) (hkx:Sli (zu .u64) w x.1 x.2.1 [k0,k1]) (hxc:x.2.1<=x.2.2) (hvz:Sli (zu .u32) w z.1 z.2.1 [p,q]) (hzc:z.2.1<=z.2.2)
  (hxF:∀ a,x.1=some a->¬F a.block/\a.block<w.heap.size) (hzF:∀ a,z.1=some a->¬F a.block/\a.block<w.heap.size) (h0:k0<18446744073709551616) (h1:k1<18446744073709551616) (hf:S.sup.pages.length+1<=S.zQ):
  Calls prog 135 #[.agg (ndV 3 x y z).toArray,.pointer (some ⟨b,0,none⟩),.int .i64 2] w (Ret fun v w'=>∃ (S':Spa) (n:Nat),v=.tuple #[.int .u32 (n:Int),.int .i64 0]/\Mk S S' [n]/\S'.page n=(((3:UInt8),[p,q],mkB (k8B [k0,k1])),0)/\Great S' (n::R) H M/\yw w b db F S' w'):=by
 obtain⟨q0,q1,q2,q3⟩:=xJ hg.good.dims;have hxl:2=x.2.1:=hkx.len;have hzl:2=z.2.1:=hvz.len;apply zds;unfold S135;refine zr fun r1 w1 hb1 he1 hr1 hz1=>?_;have hb1:Blk w1 r1 (ndV 3 x y z) 215:=hb1;refine yk (fun _ w'=>Ext w1 w') ?_ (fun J hJ=>?_);rotate_left
 ·refine zn 1 x hb1 (by rfl) ?_;refine zd (beq_eq_false_iff_ne.2 (by omega)) ?_;refine zZ (ls:=qS) (ndT 3 x y z) hb1 (by rfl) ?_;refine zb qn ?_;rintro _ w2 ⟨rfl,he2⟩;refine⟨_,rfl,zf (by rfl) ?_⟩;refine zn 3 z (hb1.ext he2) (by rfl) (zd (beq_eq_false_iff_ne.2 (by omega)) ?_);exact zd (by decide) (hJ _ _ he2)
 rintro _ w2 he2;have he:=he1.trans he2;refine zZ (ls:=qS) (ndT 3 x y z) (hb1.ext he2) (by rfl) ?_;have hs:=he.size;have hN:1=([k0,k1].length+S.r0 / 12-1) / (S.r0 / 12):=by
  show 1=(2+S.r0 / 12-1) / (S.r0 / 12);refine(Nat.div_eq_of_lt_le ?_ ?_).symm<;>omega
 refine zb (zdb (h.ext he) (t:=3) (by decide) (by decide) hg hpen (hkx.ext he) hxc (hvz.ext he) hzc (fun a ha=>⟨(hxF a ha).1,by have:=(hxF a ha).2;omega⟩) (fun a ha=>⟨(hzF a ha).1,by have:=(hzF a ha).2;omega⟩) rfl (fun k hk=>?_) hN (by omega) (by omega) (by simp) hf) ?_
 ·simp only [mem_cons,not_mem_nil,or_false]at hk;rcases hk with rfl|rfl
  ·exact h0
  ·exact h1
 rintro _ w3 ⟨S',F',ps,A,A2,c,c2,rfl,hpl,hMk,hG,hPg,hS3,hF3,hO3,hoA,hoB,hAF,hBF⟩;refine⟨((A,1,c),(A2,1,c2),0,()),rfl,zd (by rfl) ?_⟩;dsimp only;rw[show wrap .i64 (2+1)=((3:Nat):Int) by decide];show ze _ _ [.agg (ndV 3 (A,1,c) (none,0,0) (A2,1,c2)).toArray,_,_] _ _ w3
 match ps,hpl with
 |[n],_=>
  refine zb (zgZ rfl (deep:=3) hoB.sl) ?_;rintro _ w4 ⟨rfl,he4⟩;refine⟨((n:Int),0,()),rfl,S',n,rfl,hMk,?_,hG,F',hS3.ext he4,fun k hk=>?_,?_⟩
  ·have:=(hPg 0 (by omega)).1;rw[zcJ (n:=[k0,k1].length) (l:=[p,q]) rfl,zcJ (l:=[k0,k1]) rfl]at this;exact this
  ·rcases hF3 k hk with e|e
   ·exact .inl e
   ·exact .inr (by omega)
  ·exact Only.trans (Only.trans (Only.zB he) hO3 (fun j hj=>.inl hj)) (Only.zB (F:=F) he4) (fun j hj=>.inl hj)
theorem zhZ (h:zV w b db S F) {ks vs:List Nat} {x y z:SLC} (hg:Great S (vs++R) H M) (hpen:S.dev.pen.length<=700000) (hkx:Sli (zu .u64) w x.1 x.2.1 ks) (hxc:x.2.1<=x.2.2) (hvz:Sli (zu .u32) w z.1 z.2.1 vs) (hzc:z.2.1<=z.2.2)
  (hxF:∀ a,x.1=some a->¬F a.block/\a.block<w.heap.size) (hzF:∀ a,z.1=some a->¬F a.block/\a.block<w.heap.size)
  (hlen:ks.length=vs.length) (h64:∀ k∈ks,k<18446744073709551616) (h1:1<=ks.length) (h2:ks.length<=2*(S.r0 / 12)) (hrise:xH ks=true) (hf:S.sup.pages.length+3<=S.zQ):
  Calls prog 135 #[.agg (ndV 5 x y z).toArray,.pointer (some ⟨b,0,none⟩),.int .i64 1] w (Ret fun v w'=>∃ (S':Spa) (n:Nat) (ls:List Nat),v=.tuple #[.int .u32 (n:Int),.int .i64 0]/\ziD S S' n ks vs ls R H M/\yw w b db F S' w'):=by
 obtain⟨q0,q1,q2,q3⟩:=xJ hg.good.dims;have hxl:=hkx.len;have hzl:=hvz.len;have hfit:9<=S.r0 / 12/\S.r0 / 12<=339:=by omega
 generalize hft:S.r0 / 12=fit at *;obtain⟨N,hN⟩:∃ N,N=(ks.length+fit-1) / fit:=⟨_,rfl⟩;have hN1:1<=N:=by rw[hN,Nat.le_div_iff_mul_le (by omega)];omega
 have hN2:N<=2:=by
  rw[hN];refine Nat.le_of_lt_succ ((Nat.div_lt_iff_lt_mul (by omega)).2 ?_);show _<3*fit;omega
 have hNn:N<=ks.length:=by
  rw[hN];refine Nat.le_of_lt_succ ((Nat.div_lt_iff_lt_mul (by omega)).2 ?_);have:ks.length*1<=ks.length*fit:=Nat.mul_le_mul_left _ (by omega);rw[Nat.succ_mul];omega
 apply zds;unfold S135;refine zr fun r1 w1 hb1 he1 hr1 hz1=>?_;have hb1:Blk w1 r1 (ndV 5 x y z) 215:=hb1;refine yk (fun _ w'=>Ext w1 w') ?_ (fun J hJ=>?_);rotate_left
 ·refine zn 1 x hb1 (by rfl) ?_;refine zd (beq_eq_false_iff_ne.2 (by omega)) ?_;refine zZ (ls:=qS) (ndT 5 x y z) hb1 (by rfl) ?_;refine zb qn ?_;rintro _ w2 ⟨rfl,he2⟩;refine⟨_,rfl,zd (by rfl) ?_⟩;exact zd (by decide) (hJ _ _ he2)
 rintro _ w2 he2;have he:=he1.trans he2;refine zZ (ls:=qS) (ndT 5 x y z) (hb1.ext he2) (by rfl) ?_;have hs:=he.size;refine zb (zdb (h.ext he) (t:=5) (by decide) (by decide) hg (by omega) (hkx.ext he) hxc (hvz.ext he) hzc (fun a ha=>⟨(hxF a ha).1,by have:=(hxF a ha).2;omega⟩) (fun a ha=>⟨(hzF a ha).1,by have:=(hzF a ha).2;omega⟩) hlen h64 (by rw[hft];exact hN) hN1 hN2 hNn (by omega)) ?_;rintro _ w3 ⟨S',F',ps,A,A2,c,c2,rfl,hpl,hMk,hG,hPg,hS3,hF3,hO3,hoA,hoB,hAF,hBF⟩;refine⟨((A,N,c),(A2,N,c2),0,()),rfl,zd (by rfl) ?_⟩;dsimp only;rw[show wrap .i64 (1+1)=((2:Nat):Int) by decide];have hst3:yw w b db F S' w3:=⟨F',hS3,fun k hk=>by rcases hF3 k hk with e|e;exact .inl e;exact .inr (by omega),Only.trans (Only.zB he) hO3 (fun j hj=>.inl hj)⟩;show ze _ _ [.agg (ndV 3 (A,N,c) (none,0,0) (A2,N,c2)).toArray,_,_] _ _ w3;have hpart:∀ j,j<N->jn S' (ps.getD j 0) (prt ks.length N j ks) (prt ks.length N j vs):=fun j hj=>by
  obtain⟨l1,l2,l3⟩:=zgY (fit:=fit) (by omega) hN1 hN2 hNn (by
   rw[hN]
   have d1:=Nat.div_add_mod (ks.length+fit-1) fit
   have d2:=Nat.mod_lt (ks.length+fit-1) (show 0<fit by omega)
   rw[Nat.mul_comm]at d1
   omega) hj
  refine⟨(hPg j hj).1,?_,?_,zhT (zhU hrise _) _,fun k hk=>h64 k (ziC k hk)⟩
  ·rw[vc rfl l2 (Nat.le_of_lt l1),vc hlen.symm l2 (Nat.le_of_lt l1)]
  ·rw[vc rfl l2 (Nat.le_of_lt l1)];omega
 rcases (show N=1\/N=2 by omega) with e|e
 ·clear hN;subst e
  match ps,hpl with
  |[p],_=>
   refine zb (zgZ rfl (deep:=2) hoB.sl) ?_;rintro _ w4 ⟨rfl,he4⟩;refine⟨((p:Int),0,()),rfl,S',p,[p],rfl,⟨hMk,hG,.one ?_,by simp⟩,?_⟩
   ·have:=hpart 0 (by omega);rw[zcJ rfl,zcJ hlen.symm]at this;exact this
   ·obtain⟨F4,a1,a2,a3⟩:=hst3;exact⟨F4,a1.ext he4,a2,Only.trans a3 (Only.zB (F:=F) he4) (fun j hj=>.inl hj)⟩
 ·clear hN;subst e
  match ps,hpl with
  |[p,q],_=>
   have hm:lo ks.length 2 1=ks.length / 2:=by unfold lo;rw[Nat.one_mul]
   have hm0:lo ks.length 2 0=0:=ziB _ _;have hm2:lo ks.length 2 2=ks.length:=zkx (by omega);have ekey:((List.range 2).map fun i=>ks.getD (lo ks.length 2 i) 0)=[ks.getD 0 0,ks.getD (ks.length / 2) 0]:=by
    show [ks.getD (lo ks.length 2 0) 0,ks.getD (lo ks.length 2 1) 0]=_;rw[hm,hm0]
   rw[ekey]at hoA;have hAl:=hoA.yc;have hBl:=hoB.yc;have h64':∀ i,ks.getD i 0<18446744073709551616:=fun i=>by
    rw[getD_eq_getElem?_getD];cases hq:ks[i]? with
    |none=>exact(by decide:(0:Nat)<18446744073709551616)
    |some v=>exact h64 v (mem_of_getElem? hq)
   have hsp:=hMk.sup;have hfr:=hMk.free;have hpn:=hMk.pen;have hle:A2=A2:=rfl;simp only [length_cons,length_nil]at hfr hpn;refine zb (zox (k0:=ks.getD 0 0) (k1:=ks.getD (ks.length / 2) 0) (p:=p) (q:=q) hS3 hG (by omega) (x:=(A,2,c)) (y:=(none,0,0)) (z:=(A2,2,c2)) hoA.sl hoA.le.1 hoB.sl hoB.le.1 (fun a ha=>⟨hAF _ (by rw[show A=some a from ha];rfl),hAl _ (by rw[show A=some a from ha];rfl)⟩) (fun a ha=>⟨hBF _ (by rw[show A2=some a from ha];rfl),hBl _ (by rw[show A2=some a from ha];rfl)⟩) (h64' _) (h64' _) (by rw[hsp];omega)) ?_;rintro _ w4 ⟨S4,n,rfl,hP,hpg,hG4,hst⟩;refine⟨((n:Int),0,()),rfl,S4,n,[p,q]++[n],rfl,⟨hMk.trans hP,hG4,?_,by simp⟩,?_⟩
   ·have a0:=hpart 0 (by omega);have a1:=hpart 1 (by omega);have u0:=(hPg 0 (by omega)).2;have u1:=(hPg 1 (by omega)).2;have kp:∀ j,zE S'.sup.pages S'.now j=true->S4.page j=S'.page j:=fun j hj=>(hP.used hG.good hj).1;unfold prt at a0 a1;rw[hm0,show lo ks.length 2 (0+1)=_ from hm,List.drop_zero,List.drop_zero,Nat.sub_zero]at a0;rw[hm,show lo ks.length 2 (1+1)=_ from hm2]at a1;rw[take_of_length_le (l:=ks.drop _) (by rw[length_drop];omega),take_of_length_le (l:=vs.drop _) (by rw[length_drop];omega)]at a1;exact .two (ks.length / 2) p q (by omega) (by omega) hlen hrise h64 hpg (a0.keep (kp _ u0)) (a1.keep (kp _ u1))
   ·exact yw.trans (Only.trans (Only.zB he) hO3 (fun j hj=>.inl hj)) (fun k hk=>by
     rcases hF3 k hk with e|e
     ·exact .inl e
     ·exact .inr (by omega)) hst
theorem zh0 (h:zV w b db S F) {ks vs:List Nat} {x y:SLC} (hg:Great S (vs++R) H M) (hpen:S.dev.pen.length<=700000) (hkx:Sli (zu .u64) w x.1 x.2.1 ks) (hxc:x.2.1<=x.2.2) (hvy:Sli (zu .u64) w y.1 y.2.1 vs)
  (hxF:∀ a,x.1=some a->¬F a.block/\a.block<w.heap.size) (hyF:∀ a,y.1=some a->¬F a.block/\a.block<w.heap.size)
  (hlen:ks.length=vs.length) (h64:∀ k∈ks,k<18446744073709551616) (h1:1<=ks.length) (h2:ks.length<=2*(S.r0 / 12)) (hrise:xH ks=true) (hf:S.sup.pages.length+3<=S.zQ) (h6:∀ v∈vs,S.now.getD v 0<65535):
  Calls prog 86 #[.pointer (some ⟨b,0,none⟩),.bool true,.slice x.1 x.2.1 x.2.2,.slice y.1 y.2.1 y.2.2] w (Ret fun v w'=>∃ (S':Spa) (n:Nat) (ls:List Nat),v=.tuple #[.int .u32 (n:Int),.int .i64 0]/\ziD S S' n ks vs ls R H M/\yw w b db F S' w'):=by
 obtain⟨q0,q1,q2,q3⟩:=xJ hg.good.dims;have hxl:=hkx.len;have hyl:=hvy.len;have hFlt:=h.lt;have hvu:∀ v∈vs,zE S.sup.pages S.now v=true:=fun v hv=>hg.good.well.root v (mem_append_left _ hv);apply zoc;unfold S86;refine zd (by rfl) ?_;refine zd (bne_eq_false_iff_eq.2 (by omega)) ?_;refine zb (R:=fun v w'=>v=.int .u8 5/\w'=w) ?_ ?_
 ·apply zlw;unfold S133;exact zf (by rfl) ⟨rfl,rfl⟩
 rintro _ w1 ⟨rfl,rfl⟩;refine⟨_,rfl,?_⟩;refine yn (vs:=ndV 5 x y (none,0,0)) (by rfl) (jb _ _ _ _) (fun r2 w2 hb2 he2 hr2=>?_) (by rfl);have hs2:=he2.size;refine zz (fun q w'=>∃ (i:Nat) (Fi:Nat->Prop) (A:Option Addr) (c:Nat),i<=vs.length/\q=((i:Int),())/\zV w' b db S Fi/\(∀ k,Fi k->F k\/w2.heap.size<=k)/\Only F w1 w'/\w2.heap.size<=w'.heap.size/\Blk w' r2 (ndV 5 x y (A,i,c)) 215/\Owni (zu .u32) 41 w' w2.heap.size A i c (vs.take i)/\(∀ j,orow A=some j->¬Fi j)) (fun q=>(vs.length-q.1).toNat)
  ⟨0,F,none,0,by omega,rfl,h.ext he2,fun k hk=>.inl hk,Only.zB he2,Nat.le_refl _,hb2,Owni.nil _ _ _,fun j hj=>(by cases hj)⟩ ?_
 rintro _ w3 ⟨i,Fi,A,c,hi,rfl,hS3,hFi,hO3,hs3,hb3,ho3,hAF⟩;dsimp only;have hnFi:∀ j,¬F j->j<w2.heap.size->¬Fi j:=fun j h1 h2 hf=>by
  rcases hFi j hf with e|e
  ·exact h1 e
  ·omega
 have hr2l:=hb2.lt
 by_cases hlt:i<vs.length
 ·refine zf (decide_eq_true (by omega)) ?_;have hv3:=hvy.only hO3 (fun a ha=>(hyF a ha).1);have hk3:=hkx.only hO3 (fun a ha=>(hxF a ha).1);have hvi:vs.getD i 0∈vs:=by rw[getD_eq_getElem?_getD,List.getElem?_eq_getElem hlt];exact getElem_mem _
  have hvN:=hg.good.well.lt (hvu _ hvi);have hN:=hg.good.dims.n;refine yk (fun(_:Unit) w'=>∃ (Fj:Nat->Prop) (A':Option Addr) (c':Nat),zV w' b db S Fj/\(∀ k,Fj k->F k\/w2.heap.size<=k)/\Only F w1 w'/\w2.heap.size<=w'.heap.size/\Blk w' r2 (ndV 5 x y (A',i+1,c')) 215/\Owni (zu .u32) 41 w' w2.heap.size A' (i+1) c' (vs.take (i+1))/\(∀ j,orow A'=some j->¬Fj j)) ?_ (fun J hJ=>?_)
  ·rintro _ w4 ⟨Fj,A',c',g1,g2,g3,g4,g5,g6,g7⟩;exact⟨⟨i+1,Fj,A',c',by omega,by rw[wrap_i64 (by omega) (by omega)];rfl,g1,g2,g3,g4,g5,g6,g7⟩,by rw[wrap_i64 (by omega) (by omega)];omega⟩
  refine zU hv3 (by omega) (by omega) ?_;rw[Int.toNat_natCast];refine yk (fun(_:Unit) w'=>∃ (Fj:Nat->Prop),zV w' b db S Fj/\(∀ k,Fj k->Fi k\/w3.heap.size<=k)/\Only Fi w3 w') ?_ (fun J9 hJ9=>?_);rotate_left
  ·refine zM fun w4 he4 hz4 hh4=>?_;have used_:∀ {K:WP},True->ze prog 134 [.pointer (some ⟨b,0,none⟩),.int .u64 ((vs.getD i 0:Nat):Int)] (.one (.one .bool)) (fun u:Bool=>za (!u) K (J9 ())) w4:=by
    intro K _;refine zb (zhX (hS3.ext he4) hg (hvu _ hvi) (h6 _ hvi)) ?_;rintro _ w5 ⟨rfl,F5,g1,g2,g3⟩;exact⟨_,rfl,zd (by rfl) (hJ9 _ _ ⟨F5,g1,fun k hk=>by
     rcases g2 k hk with e|e
     ·exact .inl e
     ·exact .inr (by omega),Only.trans (Only.zB he4) g3 (fun j hj=>.inl hj)⟩)⟩
   by_cases h0:i=0
   ·exact zd (decide_eq_false (by omega)) (zf rfl (used_ trivial))
   ·refine zf (decide_eq_true (by omega)) ?_;rw[show wrap .i64 ((i:Int)-1)=((i-1:Nat):Int) by rw[wrap_i64 (by omega) (by omega)];omega];refine zU (hk3.ext he4) (by omega) (by omega) ?_;refine zU (hk3.ext he4) (by omega) (by omega) ?_;rw[Int.toNat_natCast,Int.toNat_natCast];have:=qH.1 hrise (i-1) (by omega);rw[show i-1+1=i by omega]at this;exact zd (decide_eq_false (by omega)) (zf rfl (used_ trivial))
  rintro _ w4 ⟨F4,hS4,hF4,hO4⟩;refine zf rfl ?_;have hS3lt:=hS3.lt;have hs4:=hO4.2.2.2.1;have hF42:∀ k,F4 k->F k\/w2.heap.size<=k:=fun k hk=>by
   rcases hF4 k hk with e|e
   ·exact hFi k e
   ·exact .inr (by omega)
  have hr2F:¬F r2:=fun hf=>by have:=hFlt _ hf;omega
  have hb4:=hb3.only hO4 (hnFi _ hr2F hr2l);refine zn 3 ((A,i,c):SLC) hb4 (by rfl) ?_;have hw32:wrap .u32 ((vs.getD i 0:Nat):Int)=((vs.getD i 0:Nat):Int):=by rw[wrap_u32];omega
  rw[hw32];have ho4:=ho3.only hO4 hAF;refine xa (E:=zu .u32) (ys:=[vs.getD i 0]) (by rfl) rfl jF ho4 (by omega) (by dsimp only;omega) (by omega) ?_;intro A' c' w5 ho5 hg5;have hs5:=hg5.grown.size;have hb5:=hb4.grown hg5.grown (fun hh=>by have:=ho3.row _ hh.symm;omega);refine stE (o:=3) hb5 (by rw[zy]) (by show 3<4;omega) ?_;intro w6 hb6 o6;have hs6:=o6.2.2.2.1;have hAF4:∀ j,orow A=some j->¬F4 j:=fun j hj hf=>by
   have:=ho3.yc j hj;rcases hF4 j hf with e|e
   ·exact hAF j hj e
   ·omega
  have h4lt:=hS4.lt;have o46:Only (fun j=>orow A=some j\/j=r2) w4 w6:=Only.trans (Only.z8 hg5.grown (fun j hj=>.inl (.inl hj))) o6 (fun j hj=>.inl (.inr hj));refine hJ _ _ ⟨F4,A',c',hS4.only o46 (fun j hj e=>by
   rcases e with e|e
   ·exact hAF4 j e hj
   ·rw[e]at hj
    rcases hF42 _ hj with e|e
    ·exact hr2F e
    ·omega),hF42,Only.trans (Only.trans hO3 hO4 (fun j hj=>by
     rcases hFi j hj with e|e
     ·exact .inl e
     ·exact .inr (by omega))) o46 (fun j hj=>.inr (by
     rcases hj with e|e
     ·have:=ho3.row j e;omega
     ·omega)),by omega,hb6,?_,fun j hj hf=>?_⟩
  ·rw[show vs.take (i+1)=vs.take i++[vs.getD i 0] by rw[take_succ_eq_append_getElem hlt,getD_eq_getElem?_getD,List.getElem?_eq_getElem hlt];rfl];exact ho5.only o6 (fun j hj e=>by have:=ho5.row j hj;have:j=r2:=e;omega)
  ·rcases hg5.next j hj with e|e
   ·exact hAF4 j e hf
   ·have:=h4lt j hf;omega
 ·obtain rfl:i=vs.length:=by omega
  refine zd (decide_eq_false (by omega)) ?_;rw[take_of_length_le (by omega)]at ho3;refine zZ (ls:=qS) (ndT 5 x y (A,vs.length,c)) hb3 (by rfl) ?_;have hAl:=ho3.yc;refine zb (zhZ hS3 hg hpen (z:=(A,vs.length,c)) (hkx.only hO3 (fun a ha=>(hxF a ha).1)) hxc ho3.sl ho3.le.1 (fun a ha=>⟨hnFi _ (hxF a ha).1 (by have:=(hxF a ha).2;omega),by have:=(hxF a ha).2;omega⟩) (fun a ha=>⟨hAF _ (by rw[show A=some a from ha];rfl),hAl _ (by rw[show A=some a from ha];rfl)⟩) hlen h64 h1 h2 hrise hf) ?_;rintro _ w4 ⟨S',n,ls,rfl,hB,hst⟩;refine⟨((n:Int),0,()),rfl,S',n,ls,rfl,hB,yw.trans hO3 (fun k hk=>?_) hst⟩;rcases hFi k hk with e|e
  ·exact .inl e
  ·exact .inr (by omega)
end V
/- Contracts of the package schema and of the document's answer (17). -/
set_option maxRecDepth 100000
namespace V
open Go Go.Proofs
abbrev Col:=ByteArray×Int×Bool
def x6:Enc Col where
 k:=3
 f c:=[.string c.1,.int .i64 c.2.1,.bool c.2.2]
 len _:=rfl
 one _:=by
  intro v hv
  simp only [mem_cons,not_mem_nil,or_false]at hv
  rcases hv with rfl|rfl|rfl<;>rfl
 pos:=by omega
def letter (c:Nat):Bool:=(97<=c&&c<=122)||(65<=c&&c<=90)||c==95
def digit (c:Nat):Bool:=48<=c&&c<=57
def jc (i c:Nat):Bool:=letter c||(decide (0<i)&&digit c)
theorem zbm {i c:Nat}:jc i c=true↔(97<=c/\c<=122)\/(65<=c/\c<=90)\/c=95\/(0<i/\48<=c/\c<=57):=by
 simp only [jc,letter,digit,Bool.or_eq_true,Bool.and_eq_true,decide_eq_true_eq,beq_iff_eq];omega
def zaS (s:List UInt8):Bool:=decide (1<=s.length/\s.length<=32/\∀ i,i<s.length->jc i (s.getD i 0).toNat=true)
def yY (s:List UInt8):Int:=if zaS s then 0 else 170
theorem zh1 {s:List UInt8} (h:s.length<1):yY s=170:=by
 unfold yY zaS;rw[decide_eq_false (by omega)];rfl
theorem zjz {s:List UInt8} (h:32<s.length):yY s=170:=by
 unfold yY zaS;rw[decide_eq_false (by omega)];rfl
theorem zkA {s:List UInt8} {i:Nat} (hi:i<s.length) (h:jc i (s.getD i 0).toNat=false):yY s=170:=by
 unfold yY zaS;rw[decide_eq_false (fun hh=>by rw[hh.2.2 i hi]at h;cases h)];rfl
theorem zjA {s:List UInt8} (h1:1<=s.length) (h2:s.length<=32) (h:∀ i,i<s.length->jc i (s.getD i 0).toNat=true):yY s=0:=by
 unfold yY zaS;rw[decide_eq_true ⟨h1,h2,h⟩];rfl
theorem zbn (w:World) (s:ByteArray):Calls prog 110 #[.string s] w (Ret fun v w'=>v=.int .i64 (yY (B s))/\Ext w w'):=by
 apply zlh;unfold S110;have hsz:=yj s;refine zg (fun h=>?_) (fun h1=>?_)
 ·exact⟨by rw[zh1 (by have:=of_decide_eq_true h;omega)],Ext.refl w⟩
 refine zg (fun h=>?_) (fun h2=>?_)
 ·exact⟨by rw[zjz (by have:=of_decide_eq_true h;omega)],Ext.refl w⟩
 have h1:=of_decide_eq_false h1;have h2:=of_decide_eq_false h2;apply yG;refine⟨fun _ w'=>∃ pos,w'.heap[w.heap.size]?=some (.stringIter s pos)/\pos<=s.size/\Ext w w'/\∀ i,i<pos->jc i ((B s).getD i 0).toNat=true,
  fun _ w'=>match w'.heap[w.heap.size]? with|some (.stringIter s pos)=>s.size-pos|_=>0,⟨0,by show(w.heap.push _)[_]?=_;simp,by omega,(Ext.refl w).alloc _,fun i hi=>by omega⟩,?_⟩
 rintro _ w' ⟨pos,hb,hp,he,hok⟩;have hlt:=(Array.getElem?_eq_some_iff.1 hb).1;refine⟨s,pos,hb,fun hps=>?_,fun hps=>?_⟩
 ·have hgo:jc pos ((B s).getD pos 0).toNat=true->((B s).getD pos 0).toNat<128->(fun(_:Unit) w''=>(∃ pos,w''.heap[w.heap.size]?=some (.stringIter s pos)/\pos<=s.size/\Ext w w''/\∀ i,i<pos->jc i ((B s).getD i 0).toNat=true)/\
      (match w''.heap[w.heap.size]? with|some (.stringIter s pos)=>s.size-pos|_=>0)<(match w'.heap[w.heap.size]? with|some (.stringIter s pos)=>s.size-pos|_=>0)) () (yy w' w.heap.size (.stringIter s (pos+(Utf8.decode s pos).2))):=by
   intro hc hlo;have hd:=decode_ascii hps hlo;rw[hd];have hs:=xK (w:=w') (l:=w.heap.size) (o:=.stringIter s (pos+1)) hlt;refine⟨⟨pos+1,hs,by omega,he.yy (Nat.le_refl _) _,fun i hi=>?_⟩,?_⟩
   ·by_cases hip:i=pos
    ·subst hip;exact hc
    ·exact hok i (by omega)
   ·rw[hs,hb];simp only;omega
  have hw2:Ext w (yy w' w.heap.size (.stringIter s (pos+(Utf8.decode s pos).2))):=he.yy (Nat.le_refl _) _;have hbyte:((B s).getD pos 0).toNat<128/\(Utf8.decode s pos).1=((B s).getD pos 0).toNat\/¬((B s).getD pos 0).toNat<128/\128<=(Utf8.decode s pos).1:=by
   by_cases hlo:((B s).getD pos 0).toNat<128
   ·exact .inl ⟨hlo,by rw[decode_ascii hps hlo]⟩
   ·exact .inr ⟨hlo,zgt hps hlo⟩
  have hbad:jc pos (Utf8.decode s pos).1=false->yY (B s)=170:=by
   intro hc;refine zkA (i:=pos) (by omega) ?_;rcases hbyte with ⟨h1,h2⟩|⟨h1,h2⟩
   ·rw[<- h2];exact hc
   ·rw[Bool.eq_false_iff];intro hh;rw[zbm]at hh;omega
  have hgood:jc pos (Utf8.decode s pos).1=true->(fun(_:Unit) w''=>(∃ pos,w''.heap[w.heap.size]?=some (.stringIter s pos)/\pos<=s.size/\Ext w w''/\∀ i,i<pos->jc i ((B s).getD i 0).toNat=true)/\
    (match w''.heap[w.heap.size]? with|some (.stringIter s pos)=>s.size-pos|_=>0)<(match w'.heap[w.heap.size]? with|some (.stringIter s pos)=>s.size-pos|_=>0)) () (yy w' w.heap.size (.stringIter s (pos+(Utf8.decode s pos).2))):=by
   intro hc;rcases hbyte with ⟨h1,h2⟩|⟨h1,h2⟩
   ·exact hgo (by rw[<- h2];exact hc) h1
   ·rw[zbm]at hc;omega
  clear hgo hbyte;generalize yy w' w.heap.size (.stringIter s (pos+(Utf8.decode s pos).2))=w2 at *;generalize (Utf8.decode s pos).1=c at *;refine zf rfl ?_;refine yk (fun _ w'=>jc pos c=false/\w'=w2) ?_ (fun J6 h6=>?_)
  ·rintro _ w3 ⟨hc,rfl⟩;exact⟨by rw[hbad hc],hw2⟩
  refine yk (fun(x:Bool×Unit) w'=>(x.1=true↔(97<=c/\c<=122)\/(65<=c/\c<=90)\/c=95)/\w'=w2) ?_ (fun J8 h8=>?_)
  ·rintro⟨b,_⟩ w3 ⟨hb',rfl⟩;simp only at hb';have ok:jc pos c=true↔b=true\/(0<pos/\48<=c/\c<=57):=by rw[zbm,hb'];omega
   refine zg (fun h=>hgood (ok.2 (.inl h))) (fun hl=>?_);have hb2:¬b=true:=by simp[show b=false from hl]
   have no:¬(0<pos/\48<=c/\c<=57)->J6 () w3:=fun h=>h6 _ _ ⟨by rw[Bool.eq_false_iff,ne_eq,ok];rintro(h1|h1);exact hb2 h1;exact h h1,rfl⟩;refine zg (fun h1=>?_) (fun h1=>no (by have:=of_decide_eq_false h1;omega));refine zg (fun h2=>?_) (fun h2=>no (by have:=of_decide_eq_false h2;omega));refine zg (fun h3=>?_) (fun h3=>no (by have:=of_decide_eq_false h3;omega));have h1:=of_decide_eq_true h1;have h2:=of_decide_eq_true h2;have h3:=of_decide_eq_true h3;exact hgood (ok.2 (.inr ⟨by omega,by omega,by omega⟩))
  ·have hl:∀ b:Bool,(b=true↔(97<=c/\c<=122)\/(65<=c/\c<=90)\/c=95)->J8 (b,()) w2:=fun b hb=>h8 _ _ ⟨hb,rfl⟩;refine zg (fun ha=>?_) (fun ha=>?_)
   ·have ha:=of_decide_eq_true ha;refine zg (fun hb=>hl _ ?_) (fun hb=>?_)
    ·rw[decide_eq_true_eq];have hb:=of_decide_eq_true hb;omega
    ·have hb:=of_decide_eq_false hb;refine zg (fun h3=>?_) (fun h3=>?_)
     ·have h3:=of_decide_eq_true h3;refine zg (fun h4=>hl _ ?_) (fun h4=>hl _ ?_)
      ·rw[decide_eq_true_eq];have h4:=of_decide_eq_true h4;omega
      ·rw[beq_iff_eq];have h4:=of_decide_eq_false h4;omega
     ·exact hl _ (by rw[beq_iff_eq];have h3:=of_decide_eq_false h3;omega)
   ·have ha:=of_decide_eq_false ha;refine zg (fun h3=>?_) (fun h3=>?_)
    ·have h3:=of_decide_eq_true h3;refine zg (fun h4=>hl _ ?_) (fun h4=>hl _ ?_)
     ·rw[decide_eq_true_eq];have h4:=of_decide_eq_true h4;omega
     ·rw[beq_iff_eq];have h4:=of_decide_eq_false h4;omega
    ·exact hl _ (by rw[beq_iff_eq];have h3:=of_decide_eq_false h3;omega)
 ·obtain rfl:pos=s.size:=by omega
  refine zd rfl ?_;exact⟨by rw[zjA (by omega) (by omega) (fun i hi=>hok i (by omega))],he⟩
theorem zg0 {w:World} {c:Col} {a:Addr} {s:ByteArray} (h:w.cell? a=some (.string s)):
  Calls prog 155 #[.agg #[.string c.1,.int .i64 c.2.1,.bool c.2.2],.pointer (some a)] w (Ret fun v w'=>v=.bool (decide (B c.1=B s))/\Ext w w'):=by
 apply zlH;unfold S155;apply yG;have he:Ext w (w.alloc (.cells #[(.string c.1),(.int .i64 c.2.1),(.bool c.2.2)] 62)):=(Ext.refl w).alloc _;have hb:Blk (w.alloc (.cells #[(.string c.1),(.int .i64 c.2.1),(.bool c.2.2)] 62)) w.heap.size [(.string c.1),(.int .i64 c.2.1),(.bool c.2.2)] 62:=Blk.new w _ _;refine zo hb (by rfl) ?_;refine za8 (he.cell h) ?_;exact⟨by rw[qx],he⟩
def Tests (g:FuncId):Prop:=∀ (w:World) (c:Col) (a:Addr) (s:ByteArray),w.cell? a=some (.string s)->
  Calls prog g #[.agg #[.string c.1,.int .i64 c.2.1,.bool c.2.2],.pointer (some a)] w (Ret fun v w'=>v=.bool (decide (B c.1=B s))/\Ext w w')
def jV (s:ByteArray) (cs:List Col):Nat:=cs.findIdx fun c=>decide (B c.1=B s)
theorem zg1 {w:World} {A:Option Addr} {n c:Nat} {cs:List Col} {g:FuncId} {a:Addr} {s:ByteArray} (hg:enterable prog g=true) (ht:Tests g) (h:Sli x6 w A n cs) (ha:w.cell? a=some (.string s)):
  Calls prog 195 #[.slice A n c,.func (.func g) #[] #[.pointer (some a)]] w (Ret fun v w'=>v=.int .i64 (if jV s cs<n then (jV s cs:Int) else -1)/\Ext w w'):=by
 apply zl2;unfold S195;have hl:=h.len;have hle:=h.le;refine zz (fun x w'=>Ext w w'/\∃ i:Nat,i<=n/\x=((i:Int),())/\i<=jV s cs) (fun x=>(n-x.1).toNat) ⟨Ext.refl w,0,by omega,rfl,by omega⟩ ?_;rintro _ w' ⟨he,i,hi,rfl,hf⟩;dsimp only
 by_cases hlt:i<n
 ·refine zf (decide_eq_true (by omega)) ?_;have hx:cs[i]?=some cs[i]:=List.getElem?_eq_getElem (by omega);refine xT (h.ext he) (by omega) (x:=cs[i]) (by simp) rfl ?_;intro p hp hc;refine qp (ls:=[.str,(.int .i64),.bool]) (x:=(cs[i].1,cs[i].2.1,cs[i].2.2,())) hc ?_;refine xU hg ?_;refine zb (ht w' cs[i] a s (he.cell ha)) ?_;rintro _ w1 ⟨rfl,he1⟩;refine⟨_,rfl,?_⟩;refine zg (fun hd=>?_) (fun hd=>?_)
  ·have hfi:jV s cs=i:=by
    have h1:jV s cs<=i:=by
     rcases Nat.lt_or_ge i (jV s cs) with h1|h1
     ·have:=List.not_of_lt_findIdx h1;rw[hd]at this;cases this
     ·exact h1
    omega
   refine⟨?_,he.trans he1⟩;rw[hfi,if_pos hlt]
  ·rw[wrap_i64 (by omega) (by omega)];refine⟨⟨he.trans he1,i+1,by omega,rfl,?_⟩,by omega⟩;rcases Nat.lt_or_ge i (jV s cs) with h1|h1
   ·omega
   ·have hfi:jV s cs=i:=by omega
    have h2:jV s cs<cs.length:=by omega
    have:=List.findIdx_getElem (p:=fun c:Col=>decide (B c.1=B s)) (xs:=cs) (w:=h2);have h3:decide (B cs[i].1=B s)=true:=by
     have e:cs[jV s cs]=cs[i]:=by congr 1
     rw[<- e];exact this
    rw[h3]at hd;cases hd
 ·obtain rfl:i=n:=by omega
  refine zd (decide_eq_false (by omega)) ?_;exact⟨by rw[if_neg (by omega)],he⟩
theorem zek {w:World} {A:Option Addr} {n c:Nat} {cs:List Col} {g:FuncId} {a:Addr} {s:ByteArray} (hg:enterable prog g=true) (ht:Tests g) (h:Sli x6 w A n cs) (ha:w.cell? a=some (.string s)):
  Calls prog 154 #[.slice A n c,.func (.func g) #[] #[.pointer (some a)]] w (Ret fun v w'=>v=.bool (cs.any fun c=>decide (B c.1=B s))/\Ext w w'):=by
 apply zlG;unfold S154;refine zb (zg1 hg ht h ha) ?_;rintro _ w1 ⟨rfl,he1⟩;refine⟨_,rfl,?_,he1⟩;have hl:=h.len;congr 1;rw[Bool.eq_iff_iff,decide_eq_true_iff,List.any_eq_true];have:=List.findIdx_lt_length (p:=fun c:Col=>decide (B c.1=B s)) (xs:=cs);rw[<- this,hl];show((if jV s cs<n then (jV s cs:Int) else -1)>=0)↔jV s cs<n;split<;>omega
def jh:List Col->List Col->Int
 |_,[]=>0
 |pre,c::r=>if yY (B c.1)≠0 then 170 else if c.2.1<1\/c.2.1>3\/(pre.any fun d=>decide (B d.1=B c.1))=true then 171 else jh (pre++[c]) r
def xw (cs:List Col):Int:=if cs.length<1\/cs.length>16 then 171 else jh [] cs
theorem zh2 (s:List UInt8):yY s=0\/yY s=170:=by unfold yY;split<;>simp
theorem uO {w:World} {A:Option Addr} {n c:Nat} {cs:List Col} (h:Sli x6 w A n cs) (hc:n<=c):
  Calls prog 106 #[.slice A n c] w (Ret fun v w'=>v=.int .i64 (xw cs)/\Ext w w'):=by
 apply zld;unfold S106 xw;have hl:=h.len;refine zg (fun h1=>?_) (fun h1=>?_)
 ·have h1:=of_decide_eq_true h1;rw[if_pos (by omega)];exact⟨rfl,Ext.refl w⟩
 refine zg (fun h2=>?_) (fun h2=>?_)
 ·have h2:=of_decide_eq_true h2;rw[if_pos (by omega)];exact⟨rfl,Ext.refl w⟩
 have h1:=of_decide_eq_false h1;have h2:=of_decide_eq_false h2;rw[if_neg (by omega)];refine zz (fun x w'=>Ext w w'/\∃ i:Nat,i<=n/\x=((i:Int),())/\jh [] cs=jh (cs.take i) (cs.drop i)) (fun x=>(n-x.1).toNat) ⟨Ext.refl w,0,by omega,rfl,by simp⟩ ?_;rintro _ w' ⟨he,i,hi,rfl,hf⟩;dsimp only
 by_cases hlt:i<n
 ·refine zf (decide_eq_true (by omega)) ?_;obtain⟨col,hcol⟩:∃ col,col=cs[i]:=⟨_,rfl⟩;have hdrop:cs.drop i=col::cs.drop (i+1):=by rw[hcol];exact List.drop_eq_getElem_cons (by omega)
  have htake:cs.take (i+1)=cs.take i++[col]:=by rw[hcol];exact take_succ_eq_append_getElem (by omega)
  have hx:cs[Int.toNat (i:Int)]?=some col:=by rw[hcol];simp
  rw[hdrop,jh]at hf;refine xT (h.ext he) (by omega) hx rfl ?_;intro p hp hcell;refine qp (ls:=[.str,(.int .i64),.bool]) (x:=(col.1,col.2.1,col.2.2,())) hcell ?_;refine yn (vs:=[(.string col.1),(.int .i64 col.2.1),(.bool col.2.2)]) (by rfl) (x6.one col) ?_ (by rfl);intro r w1 hb he1 hr;refine zo hb (by rfl) ?_;refine zb (zbn w1 col.1) ?_;rintro _ w2 ⟨rfl,he2⟩;refine⟨_,rfl,?_⟩;have hb2:=hb.ext he2;have he02:=(he.trans he1).trans he2;refine zg (fun hn=>?_) (fun hn=>?_)
  ·have hn:yY (B col.1)≠0:=by simpa using hn
   rw[hf,if_pos hn];rcases zh2 (B col.1) with h0|h0
   ·exact absurd h0 hn
   ·exact⟨by rw[h0],he02⟩
  have hn:yY (B col.1)=0:=by simpa using hn
  rw[if_neg (by simp[hn])]at hf;refine yZ (o:=1) hb2 (by rfl) ?_;refine zg (fun hk=>?_) (fun hk=>?_)
  ·have hk:=of_decide_eq_true hk;rw[hf,if_pos (.inl hk)];exact⟨rfl,he02⟩
  have hk:=of_decide_eq_false hk;refine yZ (o:=1) hb2 (by rfl) ?_;refine zg (fun hk2=>?_) (fun hk2=>?_)
  ·have hk2:=of_decide_eq_true hk2;rw[hf,if_pos (.inr (.inl hk2))];exact⟨rfl,he02⟩
  have hk2:=of_decide_eq_false hk2;refine⟨⟨by omega,by omega⟩,?_⟩;rw[Int.toNat_natCast];have hcut:=(h.zeM (k:=i) (m:=c) (z:=3) rfl (by omega) (by omega)).ext he02;have hcell2:w2.cell? ⟨r,0,none⟩=some (.string col.1):=by rw[hb2.cell];rfl
  refine zb (zek (s:=col.1) (g:=155) (by kernel_rfl) (fun w c a s h=>zg0 h) hcut hcell2) ?_;rintro _ w3 ⟨rfl,he3⟩;refine⟨_,rfl,?_⟩;refine zg (fun hd=>?_) (fun hd=>?_)
  ·rw[hf,if_pos (.inr (.inr hd))];exact⟨rfl,he02.trans he3⟩
  ·rw[if_neg (by
    rintro(h3|h3|h3)
    ·exact hk h3
    ·exact hk2 h3
    ·rw[h3]at hd;cases hd)]at hf
   rw[wrap_i64 (by omega) (by omega)];exact⟨⟨he02.trans he3,i+1,by omega,rfl,by rw[htake];exact hf⟩,by omega⟩
 ·obtain rfl:i=n:=by omega
  refine zd (decide_eq_false (by omega)) ?_;rw[drop_of_length_le (by omega)]at hf;exact⟨by rw[hf];rfl,he⟩
def zbo (c:Col):Prop:=yY (B c.1)=0/\1<=c.2.1/\c.2.1<=3
theorem zcn:∀ (r pre:List Col),jh pre r=0->∀ c∈r,zbo c
 |[],_,_,c,hc=>by cases hc
 |d::r,pre,h,c,hc=>by
  unfold jh at h;split at h
  ·cases h
  ·rename_i h1;split at h
   ·cases h
   ·rename_i h2;rcases mem_cons.1 hc with rfl|hc
    ·have:¬(c.2.1<1\/c.2.1>3):=fun hh=>h2 (by rcases hh with hh|hh;exact .inl hh;exact .inr (.inl hh));exact⟨by omega,by omega,by omega⟩
    ·exact zcn r _ h c hc
theorem zco {cs:List Col} (h:xw cs=0):(1<=cs.length/\cs.length<=16)/\jh [] cs=0/\∀ c∈cs,zbo c:=by
 unfold xw at h;split at h
 ·cases h
 ·exact⟨by omega,h,zcn _ _ h⟩
theorem qI {s:List UInt8} (h:yY s=0):1<=s.length/\s.length<=32:=by
 unfold yY zaS at h;split at h
 ·rename_i hh;have:=of_decide_eq_true hh;exact⟨this.1,this.2.1⟩
 ·cases h
def xS (c:Col):UInt8:=if c.2.2 then UInt8.ofNat (c.2.1.toNat+128) else UInt8.ofNat c.2.1.toNat
def jI (c:Col):List UInt8:=xS c::UInt8.ofNat (B c.1).length::B c.1
def xl (cs:List Col):List UInt8:=UInt8.ofNat cs.length::cs.flatMap jI
theorem zh3 {c:Col} (h:zbo c):(jI c).length<=34:=by
 have:=qI h.1;simp[jI];omega
theorem zav:∀ {cs:List Col},(∀ c∈cs,zbo c)->(cs.flatMap jI).length<=cs.length*34
 |[],_=>by simp
 |c::r,h=>by
  have h1:=zh3 (h c mem_cons_self);have h2:=zav (cs:=r) (fun c hc=>h c (mem_cons_of_mem _ hc));simp only [flatMap_cons,length_append,length_cons];omega
def zcp (cs:List Col):List UInt8×Int:=if xw cs=0 then (xl cs,0) else ([],xw cs)
theorem zg2 {w:World} {A:Option Addr} {n c:Nat} {cs:List Col} (h:Sli x6 w A n cs) (hc:n<=c):
  Calls prog 40 #[.slice A n c] w (Ret fun v w'=>v=.tuple #[.string ⟨(zcp cs).1.toArray⟩,.int .i64 (zcp cs).2]/\Ext w w'):=by
 apply znE;unfold S40;have hl:=h.len;refine zb (uO h hc) ?_;rintro _ w1 ⟨rfl,he1⟩;refine⟨_,rfl,?_⟩;unfold zcp;refine zg (fun hn=>?_) (fun hn=>?_)
 ·have hn:xw cs≠0:=by simpa using hn
  rw[if_neg hn];exact⟨rfl,he1⟩
 have hn:xw cs=0:=by simpa using hn
 rw[if_pos hn];obtain⟨hlen,_,hok⟩:=zco hn;apply yG;have e0:#[Value.int .u8 (wrap .u8 ((n:Nat):Int))]=(bV [UInt8.ofNat cs.length]).toArray:=by rw[qh,hl];rfl
 rw[e0];have ho0:Own 5 (w1.alloc (.cells (bV [UInt8.ofNat cs.length]).toArray 5)) w.heap.size (some ⟨w1.heap.size,0,none⟩) 1 1 (bV [UInt8.ofNat cs.length]):=Own.lit (cs:=(bV [UInt8.ofNat cs.length]).toArray) he1.size (by simp[bV]);have he2:=he1.alloc (.cells (bV [UInt8.ofNat cs.length]).toArray 5);generalize w1.alloc (.cells (bV [UInt8.ofNat cs.length]).toArray 5)=w2 at ho0 he2 ⊢;refine zz (fun x w'=>Ext w w'/\∃ (i:Nat) (A':Option Addr) (m c':Nat),i<=n/\x=((A',m,c'),(i:Int),())/\Own 5 w' w.heap.size A' m c' (bV (UInt8.ofNat cs.length::(cs.take i).flatMap jI))) (fun x=>(n-x.2.1).toNat) ⟨he2,0,_,1,1,by omega,rfl,by simpa using ho0⟩ ?_;rintro _ w' ⟨he,i,A',m,c',hi,rfl,ho⟩;dsimp only;have hm:=ho.sl.blen;have hlb:(UInt8.ofNat cs.length::(cs.take i).flatMap jI).length<=600:=by
  have:=zav (cs:=cs.take i) (fun c hc=>hok c (List.mem_of_mem_take hc));have h2:(cs.take i).length<=16:=by simp;omega
  have:=Nat.mul_le_mul_right 34 h2;simp only [length_cons];omega
 by_cases hlt:i<n
 ·refine zf (decide_eq_true (by omega)) ?_;obtain⟨col,hcol⟩:∃ col,col=cs[i]:=⟨_,rfl⟩;have hmem:col∈cs:=by rw[hcol];exact getElem_mem _
  have htake:cs.take (i+1)=cs.take i++[col]:=by rw[hcol];exact take_succ_eq_append_getElem (by omega)
  have hx:cs[Int.toNat (i:Int)]?=some col:=by rw[hcol];simp
  obtain⟨hk0,hk1,hk2⟩:=hok col hmem;have hname:=qI hk0;have hns:=yj col.1;refine xT (h.ext he) (by omega) hx rfl ?_;intro p hp hcell;refine qp (ls:=[.str,(.int .i64),.bool]) (x:=(col.1,col.2.1,col.2.2,())) hcell ?_;refine yn (vs:=[(.string col.1),(.int .i64 col.2.1),(.bool col.2.2)]) (by rfl) (x6.one col) ?_ (by rfl);intro r w3 hb he3 hr;refine yZ (o:=1) hb (by rfl) ?_;refine yZ (o:=2) hb (by rfl) ?_;have tail:∀ (kb:Int),kb=((xS col).toNat:Int)->(zA<|
    ldW .str (aD r) fun(u15:ByteArray)=>
    ldW .str (aD r) fun(u16:ByteArray)=>
    zh (.cells #[(.int .u8 kb),(.int .u8 (wrap .u8 ((u15.size:Nat):Int)))] 5) fun(r17:Nat)=>
    zq [[((aD r),(.string u16))]]<|
    zw prog (Builtin.append_ #[85,85] 85 #[(.slice A' m c'),(.slice (some (aD r17)) 2 2)]) .slc fun(u18:SLC)=>
    zq [[((aD r),(.string u16))]]<|
    zw prog (Builtin.append_ #[85,9] 85 #[(.slice u18.1 u18.2.1 u18.2.2),(.string u16)]) .slc fun(u19:SLC)=>fun w'=>(Ext w w'/\∃ (i':Nat) (A':Option Addr) (m c':Nat),i'<=n/\(((u19.1,u19.2.1,u19.2.2),wrap .i64 ((i:Int)+1),()):SLC×Int×Unit)=((A',m,c'),(i':Int),())/\Own 5 w' w.heap.size A' m c' (bV (UInt8.ofNat cs.length::(cs.take i').flatMap jI)))/\(n-wrap .i64 ((i:Int)+1)).toNat<(n-(i:Int)).toNat) w3:=by
   rintro kb rfl;show(ldW _ _ _) w3.drew;have he3':Ext w' w3.drew:=he3.drew;have hb':Blk w3.drew r [(.string col.1),(.int .i64 col.2.1),(.bool col.2.2)] 62:=hb;generalize w3.drew=w4 at he3' hb' ⊢;refine zo hb' (by rfl) ?_;refine zo hb' (by rfl) ?_;rw[qh];have he4:=he.trans he3';have ho4:=ho.ext he3';have e1:(#[.int .u8 ((xS col).toNat:Int),.int .u8 ((UInt8.ofNat col.1.size).toNat:Int)]:Array Value)=(bV [xS col,UInt8.ofNat (B col.1).length]).toArray:=by rw[hns];rfl
   rw[e1];apply yG;have hblk:Blk (w4.alloc (.cells (bV [xS col,UInt8.ofNat (B col.1).length]).toArray 5)) w4.heap.size (bV [xS col,UInt8.ofNat (B col.1).length]) 5:=by simpa using Blk.new w4 (bV [xS col,UInt8.ofNat (B col.1).length]).toArray 5
   have hal:Ext w4 (w4.alloc (.cells (bV [xS col,UInt8.ofNat (B col.1).length]).toArray 5)):=(Ext.refl w4).alloc _;have held:∀ {w5:World} {K:WP},Blk w5 r [(.string col.1),(.int .i64 col.2.1),(.bool col.2.2)] 62->K w5->zq [[((aD r),(.string col.1))]] K w5:=fun {w5 K} hb hk=>⟨fun l hl p hp=>by
    simp only [mem_singleton]at hl
    subst hl
    simp only [mem_singleton]at hp
    subst hp
    rw[hb.cell]
    rfl,hk⟩
   have hb5:=hb'.ext hal;have ho5:=ho4.ext hal;have he5:=he4.trans hal;generalize w4.alloc (.cells (bV [xS col,UInt8.ofNat (B col.1).length]).toArray 5)=w5 at *;refine held hb5 ?_;refine uZ qy ho5 he5.size (Sl.xC hblk rfl (by omega)) (zaH _) (by omega) (by omega) ?_;intro A6 c6 w6 ho6 hg6 _;rw[<- xg]at ho6;have hrne:orow A'≠some r:=fun hh=>by
    have h1:=World.ownsRow.lt ho r (by rw[xu];exact hh);omega
   have hb6:Blk w6 r [(.string col.1),(.int .i64 col.2.1),(.bool col.2.2)] 62:=hb5.grown hg6.grown (fun hh=>hrne hh.symm);have he6:=he5.grown hg6.grown ho5.row';refine held hb6 ?_;dsimp only;have hm6:=ho6.sl.blen;refine za9 qy (by kernel_rfl) ho6 he6.size (by omega) ?_;intro A7 c7 w7 ho7 hg7;have he7:=he6.grown hg7.grown ho6.row';rw[wrap_i64 (by omega) (by omega)];refine⟨⟨he7,i+1,A7,_,c7,by omega,rfl,?_⟩,by omega⟩;have e2:UInt8.ofNat cs.length::(cs.take (i+1)).flatMap jI=(UInt8.ofNat cs.length::(cs.take i).flatMap jI++[xS col,UInt8.ofNat (B col.1).length])++B col.1:=by
    rw[htake];simp[jI]
   rw[e2];exact ho7
  have hkn:wrap .u8 col.2.1=((col.2.1.toNat:Nat):Int):=by rw[wrap_u8];omega
  refine zg (fun hnull=>?_) (fun hnull=>?_)
  ·refine tail _ ?_;rw[hkn,show(128:Int)=((128:Nat):Int) from rfl,zii (k:=.u8) rfl (by simp[IntKind.bits];omega) (by simp[IntKind.bits])];unfold xS;rw[hnull,if_pos rfl];have:col.2.1.toNat=1\/col.2.1.toNat=2\/col.2.1.toNat=3:=by omega
   rcases this with h|h|h<;>rw[h]<;>rfl
  ·refine tail _ ?_;rw[hkn];unfold xS;have:col.2.1.toNat=1\/col.2.1.toNat=2\/col.2.1.toNat=3:=by omega
   rw[hnull,if_neg (by simp)];rcases this with h|h|h<;>rw[h]<;>rfl
 ·obtain rfl:i=n:=by omega
  refine zd (decide_eq_false (by omega)) ?_;rw[take_of_length_le (by omega)]at ho;refine qO (e:=5) (by kernel_rfl) (by kernel_rfl) (by kernel_rfl) ho.sl ?_;exact⟨rfl,he⟩
end V
/- Contracts of schema.Read and what goes with it. -/
namespace V
open Go Go.Proofs
theorem zmL:jR prog 40 62 (.agg #[.string ByteArray.empty,.int .i64 0,.bool false]) x6.k 32:=by
 refine⟨by kernel_rfl,by kernel_rfl,rfl⟩
theorem zmM:∀ x:Fin 256,iandn .u8 (x.val:Int) 128=((x.val % 128:Nat):Int):=by decide+kernel
theorem zoy:∀ x:Fin 256,((iand .u8 (x.val:Int) 128) !=0)=decide (128<=x.val):=by decide+kernel
def jZ (s:List UInt8):Option (Col×List UInt8):=
 if s.length<2\/s.length-2<(s.getD 1 0).toNat then none
 else some ((⟨((s.drop 2).take (s.getD 1 0).toNat).toArray⟩,(((s.getD 0 0).toNat % 128:Nat):Int),decide (128<=(s.getD 0 0).toNat)),s.drop (2+(s.getD 1 0).toNat))
def xM:Nat->List UInt8->Option (List Col×List UInt8)
 |0,s=>some ([],s)
 |n+1,s=>match jZ s with
  |none=>none
  |some (c,r)=>match xM n r with
   |none=>none
   |some (cs,r')=>some (c::cs,r')
def xN:List UInt8->Option (List Col×List UInt8)
 |[]=>none
 |b::r=>match xM b.toNat r with
  |none=>none
  |some (cs,r')=>if xw cs=0 then some (cs,r') else none
theorem zjB {n i:Nat} {r0 rest:List UInt8} {acc:List Col} (hi:i<n) {c:Col} {r:List UInt8} (hc:jZ rest=some (c,r))
  (h:xM n r0=(xM (n-i) rest).map fun p=>(acc++p.1,p.2)):xM n r0=(xM (n-(i+1)) r).map fun p=>((acc++[c])++p.1,p.2):=by
 rw[h,show n-i=(n-(i+1))+1 by omega,xM,hc];simp only;cases xM (n-(i+1)) r with
 |none=>rfl
 |some p=>simp
theorem zjC {n i:Nat} {r0 rest:List UInt8} {acc:List Col} (hi:i<n) (hc:jZ rest=none)
  (h:xM n r0=(xM (n-i) rest).map fun p=>(acc++p.1,p.2)):xM n r0=none:=by
 rw[h,show n-i=(n-(i+1))+1 by omega,xM,hc];rfl
abbrev RdT:=SLC×ByteArray×Int×Unit
def zna (w:World) (R:Option (List Col×List UInt8)) (x:RdT) (w':World):Prop:=
 (match R with
  |none=>x=((none,0,0),⟨#[]⟩,171,())
  |some (cs,r)=>Owni x6 62 w' w.heap.size x.1.1 x.1.2.1 x.1.2.2 cs/\x.2.1=⟨r.toArray⟩/\x.2.2.1=0)/\Ext w w'
def zpF:Option (Col×List UInt8)->(ByteArray×Int×Bool×Unit)×ByteArray×Bool×Unit
 |none=>((ByteArray.empty,0,false,()),⟨#[]⟩,false,())
 |some (c,r)=>((c.1,c.2.1,c.2.2,()),⟨r.toArray⟩,true,())
theorem zkB (w:World) (s:ByteArray) (hsmall:s.size<=9223372036854775807):Calls prog 157 #[.string s] w (Ret fun v w'=>v=Rs.val (.many [.agg [.str,.int .i64,.bool],.one .str,.one .bool]) (zpF (jZ (B s)))/\Ext w w'):=by
 apply zlJ;unfold S157;have hsz:=yj s;apply yG;have hb:Blk (w.alloc (.cells #[(.string ByteArray.empty),(.int .i64 (0:Int)),(.bool false)] 62)) w.heap.size [(.string ByteArray.empty),(.int .i64 (0:Int)),(.bool false)] 62:=Blk.new w _ _;have he:Ext w (w.alloc (.cells #[(.string ByteArray.empty),(.int .i64 (0:Int)),(.bool false)] 62)):=(Ext.refl w).alloc _;have hB:w.heap.size<=w.heap.size:=Nat.le_refl _;generalize w.alloc (.cells #[(.string ByteArray.empty),(.int .i64 (0:Int)),(.bool false)] 62)=w1 at hb he ⊢;generalize hbk:w.heap.size=blk at hb hB ⊢;have put:∀ {K:(ByteArray×Int×Bool×Unit)->WP} {w2:World} (c:Col),Blk w2 blk [(.string ByteArray.empty),(.int .i64 (0:Int)),(.bool false)] 62->Ext w w2->(∀ w',Ext w w'->K (c.1,c.2.1,c.2.2,()) w')->
   (zc ((#[(.string c.1),(.int .i64 c.2.1),(.bool c.2.2)]:Array Value).size=3)<|
   zt (aD blk) [(.string c.1),(.int .i64 c.2.1),(.bool c.2.2)]<|
   zk [.str,(.int .i64),.bool] (aD blk) K) w2:=by
  intro K w2 c hb2 he2 hK;refine⟨rfl,hb2.qw _ 0 (by simp) (x6.one c),?_⟩;have hb3:=hb2.setCells [(.string c.1),(.int .i64 c.2.1),(.bool c.2.2)] rfl;exact zaI (ls:=[.str,(.int .i64),.bool]) (x:=(c.1,c.2.1,c.2.2,())) hb3 rfl (hK _ (he2.setCells (by rw[hbk];exact hB) _ _))
 refine zg (fun h=>?_) (fun h1=>?_)
 ·have hn:jZ (B s)=none:=by
   have:=of_decide_eq_true h;unfold jZ;rw[if_pos (.inl (by omega))]
  rw[hn];exact put (ByteArray.empty,0,false) hb he (fun w' he'=>⟨rfl,he'⟩)
 have h1:=of_decide_eq_false h1;refine⟨⟨by omega,by omega⟩,?_⟩;have hb1:bt s 1=(((B s).getD 1 0).toNat:Int):=by rw[ziY (by omega) (by omega)];rfl
 have hb0:bt s 0=(((B s).getD 0 0).toNat:Int):=by rw[ziY (by omega) (by omega)];rfl
 have hl1:=((B s).getD 1 0).toNat_lt;have hl0:=((B s).getD 0 0).toNat_lt;rw[hb1,hb0];rw[wrap_i64 (x:=(s.size:Int)-2) (by omega) (by omega),wrap_i64 (x:=(((B s).getD 1 0).toNat:Int)) (by omega) (by omega),wrap_i64 (x:=2+(((B s).getD 1 0).toNat:Int)) (by omega) (by omega)];refine zg (fun h2=>?_) (fun h2=>?_)
 ·have hn:jZ (B s)=none:=by
   have:=of_decide_eq_true h2;unfold jZ;rw[if_pos (.inr (by omega))]
  rw[hn];exact put (ByteArray.empty,0,false) hb he (fun w' he'=>⟨rfl,he'⟩)
 have h2:=of_decide_eq_false h2;refine⟨⟨by omega,by omega⟩,?_⟩;have he':=he.drew;have hb':=hb.drew;show(zc _ _) w1.drew;generalize w1.drew=w2 at he' hb' ⊢;refine⟨⟨by omega,by omega,by omega⟩,⟨by omega,by omega⟩,⟨by omega,by omega⟩,⟨by omega,by omega⟩,?_⟩;have hs:jZ (B s)=some ((⟨(((B s).drop 2).take ((B s).getD 1 0).toNat).toArray⟩,((((B s).getD 0 0).toNat % 128:Nat):Int),decide (128<=((B s).getD 0 0).toNat)),(B s).drop (2+((B s).getD 1 0).toNat)):=by
  unfold jZ;rw[if_neg (by omega)]
 rw[hs];have i1:=zmM ⟨((B s).getD 0 0).toNat,hl0⟩;have i2:=zoy ⟨((B s).getD 0 0).toNat,hl0⟩;simp only at i1 i2;rw[i1,i2,wrap_i64 (x:=((((B s).getD 0 0).toNat % 128:Nat):Int)) (by omega) (by omega)];have ex1:s.extract (Int.toNat 2) (Int.toNat (2+(((B s).getD 1 0).toNat:Int)))=⟨(((B s).drop 2).take ((B s).getD 1 0).toNat).toArray⟩:=by
  apply ko;rw[jC,jB];congr 1;omega
 have ex2:s.extract (Int.toNat (2+(((B s).getD 1 0).toNat:Int))) s.size=⟨((B s).drop (2+((B s).getD 1 0).toNat)).toArray⟩:=by
  apply ko;rw[jC,show(2+(((B s).getD 1 0).toNat:Int)).toNat=2+((B s).getD 1 0).toNat by omega];show _=(B s).drop (2+((B s).getD 1 0).toNat);exact take_of_length_le (by simp;omega)
 rw[ex1,ex2];exact put (⟨(((B s).drop 2).take ((B s).getD 1 0).toNat).toArray⟩,((((B s).getD 0 0).toNat % 128:Nat):Int),decide (128<=((B s).getD 0 0).toNat)) hb' he' (fun w' he'=>⟨rfl,he'⟩)
def zel (a b:Col):Bool:=decide (B a.1=B b.1)&&(a.2.1==b.2.1&&(a.2.2==b.2.2&&true))
theorem zfx {a b:Col}:zel a b=true↔a=b:=by
 unfold zel;simp only [Bool.and_eq_true,decide_eq_true_eq,beq_iff_eq,and_true];constructor
 ·rintro⟨h1,h2,h3⟩;exact Prod.ext (ko h1) (Prod.ext h2 h3)
 ·rintro rfl;exact⟨rfl,rfl,rfl⟩
theorem zjD (w:World) (a b:Col):(Op.eqFields 9999 #[.string a.1,.int .i64 a.2.1,.bool a.2.2] #[.string b.1,.int .i64 b.2.1,.bool b.2.2] (prog.fieldsOf 62).toList).run prog w=.ok (zel a b) w:=by
 have hf:(prog.fieldsOf 62).toList=[(prog.fieldsOf 62).getD 0 default,(prog.fieldsOf 62).getD 1 default,(prog.fieldsOf 62).getD 2 default]:=by kernel_rfl
 rw[hf];unfold zel;rw[<- qx];refine xX (of_decide_eq_true (by kernel_rfl)) (a:=.string a.1) (b:=.string b.1) (by kernel_rfl) (by kernel_rfl) (run_equalIn_string w 9998 _ _ _ (by kernel_rfl)) ?_;refine xX (of_decide_eq_true (by kernel_rfl)) (a:=.int .i64 a.2.1) (b:=.int .i64 b.2.1) (by kernel_rfl) (by kernel_rfl) (run_equalIn_int w 9998 _ .i64 .i64 _ _ (by kernel_rfl)) ?_;refine xX (of_decide_eq_true (by kernel_rfl)) (a:=.bool a.2.2) (b:=.bool b.2.2) (by kernel_rfl) (by kernel_rfl) (run_equalIn_bool' w 9998 _ _ _ (by kernel_rfl)) ?_;rfl
theorem zoz (w:World) (a b:Col) (x y:Operand):(eqS .neq 62 x y (.agg #[.string a.1,.int .i64 a.2.1,.bool a.2.2]) (.agg #[.string b.1,.int .i64 b.2.1,.bool b.2.2])).run prog w=.ok (.bool (!(zel a b))) w:=
 zeN (by kernel_rfl) (by kernel_rfl) (by kernel_rfl) (zjD w a b)
theorem zh4 {w:World} {s:ByteArray} (hsmall:s.size<=9223372036854775807):Calls prog 109 #[.string s] w (Ret fun v w'=>∃ x:RdT,v=Rs.val (.many [.one .slc,.one .str,.one (.int .i64)]) x/\zna w (xN (B s)) x w'):=by
 apply zlg;unfold S109;have hsz:=yj s;have none_:∀ {w'},xN (B s)=none->Ext w w'->∃ x:RdT,Value.tuple #[(.slice none 0 0),(.string (ByteArray.mk #[])),(.int .i64 (171:Int))]=Rs.val (.many [.one .slc,.one .str,.one (.int .i64)]) x/\zna w (xN (B s)) x w':=fun {w'} h he=>⟨((none,0,0),⟨#[]⟩,171,()),rfl,by rw[h];exact⟨rfl,he⟩⟩;refine zg (fun h=>?_) (fun h=>?_)
 ·rw[qx]at h;have hB:B s=[]:=of_decide_eq_true h;exact none_ (by rw[hB];rfl) (Ext.refl w)
 rw[qx]at h;have hB:B s≠[]:=of_decide_eq_false h;obtain⟨b,r0,hs⟩:∃ b r0,B s=b::r0:=by
  cases hh:B s with
  |nil=>exact absurd hh hB
  |cons b r=>exact⟨b,r,rfl⟩
 have hl:(B s).length=r0.length+1:=by rw[hs];rfl
 have he0:Ext w w.drew:=(Ext.refl w).drew;show(zc _ _) w.drew;generalize w.drew=w0 at he0 ⊢;refine⟨⟨by omega,by omega⟩,⟨by omega,by omega⟩,?_⟩;have hb0:bt s 0=(b.toNat:Int):=by rw[ziY (by omega) (by omega),hs];rfl
 have hlt:=b.toNat_lt;rw[hb0,wrap_i64 (by omega) (by omega)];have ex:s.extract (Int.toNat 1) s.size=⟨r0.toArray⟩:=by
  apply ko;rw[jC,hs];show _=r0;exact take_of_length_le (by simp;omega)
 rw[ex];refine zz (fun x w'=>Ext w w'/\∃ (i:Nat) (acc:List Col) (rest:ByteArray) (A:Option Addr) (m c:Nat),i<=b.toNat/\x=((A,m,c),rest,(i:Int),())/\Owni x6 62 w' w.heap.size A m c acc/\acc.length=i/\rest.size<=9223372036854775807/\xM b.toNat r0=(xM (b.toNat-i) (B rest)).map fun p=>(acc++p.1,p.2))
  (fun x=>(b.toNat-x.2.2.1).toNat) ⟨he0,0,[],⟨r0.toArray⟩,none,0,0,by omega,rfl,Owni.nil _ _ _,rfl,by rw[yj,jB];omega,by rw[jB,Nat.sub_zero];cases xM b.toNat r0<;>simp⟩ ?_
 rintro _ w' ⟨he,i,acc,rest,A,m,c,hi,rfl,ho,hacc,hrs,hrd⟩;dsimp only;have hm:=ho.len
 by_cases hlt:i<b.toNat
 ·refine zf (decide_eq_true (by omega)) ?_;refine zb (zkB w' rest hrs) ?_;rintro _ w1 ⟨rfl,he1⟩;refine⟨_,rfl,?_⟩;cases hcol:jZ (B rest) with
  |none=>
   refine yn (vs:=[(.string ByteArray.empty),(.int .i64 (0:Int)),(.bool false)]) (by rfl) (x6.one (ByteArray.empty,0,false)) ?_ (by rfl);intro r w2 hb he2 hr;refine zf (by rfl) ?_;refine none_ ?_ ((he.trans he1).trans he2);rw[hs,xN,zjC hlt hcol hrd]
  |some p=>
   obtain⟨col,rest'⟩:=p;refine yn (vs:=[(.string col.1),(.int .i64 col.2.1),(.bool col.2.2)]) (by rfl) (x6.one col) ?_ (by rfl);intro r w2 hb he2 hr;refine zd (by rfl) ?_;refine zaI (ls:=[.str,(.int .i64),.bool]) (x:=(col.1,col.2.1,col.2.2,())) hb rfl ?_;have he02:=(he.trans he1).trans he2;refine xa (E:=x6) (ys:=[col]) (by rfl) rfl zmL (ho.ext (he1.trans he2)) he02.size (by omega) (by omega) ?_;intro A3 c3 w3 ho3 hg3;dsimp only;rw[wrap_i64 (by omega) (by omega)];have hrl:rest'.length<=(B rest).length:=by
    unfold jZ at hcol;split at hcol
    ·cases hcol
    ·injection hcol with hcol
     injection hcol with _ hcol
     rw[<- hcol];simp
   refine⟨⟨he02.grown hg3.grown (ho.ext (he1.trans he2)).row,i+1,acc++[col],⟨rest'.toArray⟩,A3,_,c3,by omega,rfl,ho3,by simp[hacc],?_,?_⟩,by omega⟩
   ·rw[yj,jB];have:=yj rest;omega
   ·rw[jB];exact zjB hlt hcol hrd
 ·obtain rfl:i=b.toNat:=by omega
  refine zd (decide_eq_false (by omega)) ?_;rw[Nat.sub_self]at hrd;have hrd2:xM b.toNat r0=some (acc,B rest):=by rw[hrd];simp[xM]
  refine zb (uO ho.sl (by have:=ho.le;omega)) ?_;rintro _ w1 ⟨rfl,he1⟩;refine⟨_,rfl,?_⟩;refine zg (fun hck=>?_) (fun hck=>?_)
  ·have hck:xw acc≠0:=by simpa using hck
   refine none_ ?_ (he.trans he1);rw[hs,xN,hrd2];simp only;rw[if_neg hck]
  ·have hck:xw acc=0:=by simpa using hck
   have hres:xN (B s)=some (acc,B rest):=by
    rw[hs,xN,hrd2];simp only;rw[if_pos hck]
   refine⟨((A,m,c),rest,0,()),rfl,?_⟩;rw[hres];exact⟨⟨ho.ext he1,rfl,rfl⟩,he.trans he1⟩
end V
/- Columns:plain;what is read of what was put (as in seat 17's L2). -/
namespace V
open Go Go.Proofs
theorem zkC {c:Col} (h:zbo c):(xS c).toNat=c.2.1.toNat+(if c.2.2 then 128 else 0):=by
 obtain⟨_,h1,h2⟩:=h;unfold xS;cases hc:c.2.2 with
 |true=>rw[if_pos rfl,if_pos rfl,UInt8.toNat_ofNat'];omega
 |false=>rw[if_neg (by simp),if_neg (by simp),UInt8.toNat_ofNat'];omega
theorem zkD {c:Col} (h:zbo c) (t:List UInt8):jZ (jI c++t)=some (c,t):=by
 have hn:=qI h.1;have hk:=zkC h;obtain⟨_,h1,h2⟩:=h;have hlen:(UInt8.ofNat (B c.1).length).toNat=(B c.1).length:=by rw[UInt8.toNat_ofNat'];omega
 have e:jI c++t=xS c::UInt8.ofNat (B c.1).length::(B c.1++t):=by simp[jI]
 rw[e];unfold jZ;have g0:(xS c::UInt8.ofNat (B c.1).length::(B c.1++t)).getD 0 0=xS c:=rfl;have g1:(xS c::UInt8.ofNat (B c.1).length::(B c.1++t)).getD 1 0=UInt8.ofNat (B c.1).length:=rfl;rw[g0,g1,hlen,hk,if_neg (by simp)];congr 1;refine Prod.ext (Prod.ext ?_ (Prod.ext ?_ ?_)) ?_
 ·apply ko;show((B c.1++t).take (B c.1).length)=B c.1;simp
 ·show((((c.2.1.toNat+if c.2.2 then 128 else 0) % 128:Nat)):Int)=c.2.1;split<;>omega
 ·show decide (128<=c.2.1.toNat+if c.2.2 then 128 else 0)=c.2.2;cases hc:c.2.2
  ·rw[if_neg (by simp),decide_eq_false (by omega)]
  ·rw[if_pos rfl,decide_eq_true (by omega)]
 ·show(xS c::UInt8.ofNat (B c.1).length::(B c.1++t)).drop (2+(B c.1).length)=t;rw[Nat.add_comm];show(B c.1++t).drop (B c.1).length=t;simp
theorem zem:∀ {cs:List Col},(∀ c∈cs,zbo c)->∀ t,xM cs.length (cs.flatMap jI++t)=some (cs,t)
 |[],_,t=>rfl
 |c::r,h,t=>by
  rw[length_cons,flatMap_cons,append_assoc,xM,zkD (h c mem_cons_self)];simp only;rw[zem (fun d hd=>h d (mem_cons_of_mem _ hd)) t]
theorem zh5 {cs:List Col} (h:xw cs=0) (t:List UInt8):xN (xl cs++t)=some (cs,t):=by
 obtain⟨hlen,_,hok⟩:=zco h;have hl:(UInt8.ofNat cs.length).toNat=cs.length:=by rw[UInt8.toNat_ofNat'];omega
 unfold xl;rw[List.cons_append,xN,hl,zem hok t];simp only;rw[if_pos h]
theorem zkE {s:List UInt8} {c:Col} {r:List UInt8} (h:jZ s=some (c,r)):jI c++r=s:=by
 unfold jZ at h;split at h
 ·cases h
 rename_i h0
 match s,h0 with
 |[],h0=>exact absurd (.inl (by simp)) h0
 |[a],h0=>exact absurd (.inl (by simp)) h0
 |a::b::q,h0=>
  injection h with h
  injection h with h1 h2
  subst h1 h2;have g0:(a::b::q).getD 0 0=a:=rfl;have g1:(a::b::q).getD 1 0=b:=rfl;rw[g1]at h0;rw[g0,g1];have hb:=b.toNat_lt;have ha:=a.toNat_lt;have hle:b.toNat<=q.length:=by
   have:(a::b::q).length=q.length+2:=rfl;omega
  have e1:B (⟨(((a::b::q).drop 2).take b.toNat).toArray⟩:ByteArray)=q.take b.toNat:=rfl;unfold jI;simp only [e1];have e2:(q.take b.toNat).length=b.toNat:=by simp;omega
  have e3:UInt8.ofNat (q.take b.toNat).length=b:=by rw[e2];apply UInt8.toNat_inj.1;rw[UInt8.toNat_ofNat'];omega
  rw[e3];have e4:xS ((⟨(((a::b::q).drop 2).take b.toNat).toArray⟩,((a.toNat % 128:Nat):Int),decide (128<=a.toNat)):Col)=a:=by
   unfold xS;simp only;apply UInt8.toNat_inj.1;split<;>rename_i hh
   ·have:=of_decide_eq_true hh;rw[UInt8.toNat_ofNat',Int.toNat_natCast];omega
   ·have:=of_decide_eq_false (Bool.eq_false_iff.2 hh);rw[UInt8.toNat_ofNat',Int.toNat_natCast];omega
  rw[e4];have e5:(a::b::q).drop (2+b.toNat)=q.drop b.toNat:=by rw[Nat.add_comm];rfl
  rw[e5];simp
theorem zfy:∀ {n:Nat} {s:List UInt8} {cs:List Col} {r:List UInt8},xM n s=some (cs,r)->cs.length=n/\cs.flatMap jI++r=s
 |0,s,cs,r,h=>by
  injection h with h;injection h with h1 h2;subst h1 h2;exact⟨rfl,rfl⟩
 |n+1,s,cs,r,h=>by
  unfold xM at h;split at h
  ·cases h
  rename_i c q hc;split at h
  ·cases h
  rename_i cs' r' hr;injection h with h;injection h with h1 h2;subst h1 h2
  obtain⟨h3,h4⟩:=zfy hr;refine⟨by simp[h3],?_⟩;rw[flatMap_cons,append_assoc,h4];exact zkE hc
theorem zkF {s:List UInt8} {cs:List Col} {r:List UInt8} (h:xN s=some (cs,r)):xw cs=0/\xl cs++r=s:=by
 cases s with
 |nil=>cases h
 |cons b q=>
  rw[xN]at h;cases hr:xM b.toNat q with
  |none=>rw[hr]at h;cases h
  |some p=>
   obtain⟨cs',r'⟩:=p;rw[hr]at h;simp only at h
   by_cases hc:xw cs'=0
   ·rw[if_pos hc]at h;injection h with h;injection h with h1 h2;subst h1 h2
    obtain⟨h3,h4⟩:=zfy hr;refine⟨hc,?_⟩;unfold xl;rw[h3,List.cons_append,h4];congr 1;apply UInt8.toNat_inj.1;have:=b.toNat_lt;rw[UInt8.toNat_ofNat'];omega
   ·rw[if_neg hc]at h;cases h
theorem zbH {cs:List Col} (h:xw cs=0):1<=(xl cs).length/\(xl cs).length<=600:=by
 obtain⟨hlen,_,hok⟩:=zco h;have h1:=zav hok;have:=Nat.mul_le_mul_right 34 hlen.2;simp only [xl,length_cons];omega
end V
/- Catalogs:plain. -/
namespace V
open Go Go.Proofs Go.RowKit Crc
abbrev Ent:=ByteArray×List Col×Nat×Nat×Int
abbrev Snp:=ByteArray×Nat
abbrev Cat:=List Ent×List Snp
def vz:Cat:=([],[])
def ze0 (s:ByteArray):Bool:=decide (yY (B s)=0)
def ltB (a b:List UInt8):Bool:=match a,b with
 |_,[]=>false
 |[],_::_=>true
 |x::a,y::b=>decide (x.toNat<y.toNat)||(decide (x=y)&&ltB a b)
def xe {α:Type} (f:α->ByteArray):List α->Bool
 |[]=>true
 |[_]=>true
 |x::y::r=>ltB (B (f x)) (B (f y))&&xe f (y::r)
def vK (e:Ent):Bool:=decide (xw e.2.1=0)&&(decide (0<=e.2.2.2.2/\e.2.2.2.2<=4096)&&(decide (e.2.2.1=0↔e.2.2.2.2=0)&&decide (e.2.2.2.1<1099511627776)))
def yB {α:Type} (f:α->ByteArray) (l:List α):Bool:=(l.all fun x=>ze0 (f x))&&xe f l
def ku (c:Cat):Bool:=decide (c.1.length<=16/\c.2.length<=16)&&(yB (fun e:Ent=>e.1) c.1&&(yB (fun s:Snp=>s.1) c.2&&c.1.all vK))
def vA (n:Nat):UInt8:=UInt8.ofNat (min n 1)
def nmB (s:ByteArray):List UInt8:=UInt8.ofNat s.size::B s
def jd (e:Ent):List UInt8:=nmB e.1++(xl e.2.1++(le 8 e.2.2.2.1++(le 4 e.2.2.2.2.toNat++[vA e.2.2.1])))
def ju (s:Snp):List UInt8:=nmB s.1++[vA s.2]
def qa (c:Cat):List UInt8:=UInt8.ofNat c.1.length::(c.1.flatMap jd++UInt8.ofNat c.2.length::c.2.flatMap ju)
def jW (e:Ent):Ent:=(e.1,e.2.1,min e.2.2.1 1,e.2.2.2.1,e.2.2.2.2)
def kv (s:Snp):Snp:=(s.1,min s.2 1)
def ones (c:Cat):Cat:=(c.1.map jW,c.2.map kv)
def yf (n:Nat) (s:List UInt8):Option (List UInt8×List UInt8):=if s.length<n then none else some (s.take n,s.drop n)
def nmR (s:List UInt8):Option (ByteArray×List UInt8):=match yf 1 s with
 |none=>none
 |some (b,r)=>match yf (lev b) r with
  |none=>none
  |some (t,r')=>some (mkB t,r')
def jv (s:List UInt8):Option (Nat×List UInt8):=match yf 1 s with
 |none=>none
 |some (b,r)=>if lev b<=1 then some (lev b,r) else none
def j0 (s:List UInt8):Option (Ent×List UInt8):=match nmR s with
 |none=>none
 |some (n,r1)=>match xN r1 with
  |none=>none
  |some (cs,r2)=>match yf 8 r2 with
   |none=>none
   |some (x,r3)=>match yf 4 r3 with
    |none=>none
    |some (y,r4)=>match jv r4 with
     |none=>none
     |some (o,r5)=>some ((n,cs,o,lev x,(lev y:Int)),r5)
def kF (s:List UInt8):Option (Snp×List UInt8):=match nmR s with
 |none=>none
 |some (n,r1)=>match jv r1 with
  |none=>none
  |some (o,r2)=>some ((n,o),r2)
def qJ {α:Type} (f:List UInt8->Option (α×List UInt8)):Nat->List UInt8->Option (List α×List UInt8)
 |0,s=>some ([],s)
 |n+1,s=>match f s with
  |none=>none
  |some (x,r)=>match qJ f n r with
   |none=>none
   |some (l,r')=>some (x::l,r')
def ze1 (s:List UInt8):Option Cat:=match yf 1 s with
 |none=>none
 |some (b,r)=>match qJ j0 (lev b) r with
  |none=>none
  |some (ts,r2)=>match yf 1 r2 with
   |none=>none
   |some (b2,r3)=>match qJ kF (lev b2) r3 with
    |none=>none
    |some (ss,r4)=>if r4=[] then some (ts,ss) else none
def qs (s:List UInt8):Cat×Int:=match ze1 s with
 |none=>(vz,240)
 |some c=>if ku c then (c,0) else (vz,240)
def uP (c:Cat):ByteArray×Int:=if ku c then (mkB (qa c),0) else (ByteArray.empty,240)
theorem kG {n:Nat} {a:List UInt8} (h:a.length=n) (t:List UInt8):yf n (a++t)=some (a,t):=by
 unfold yf;rw[if_neg (by rw[length_append];omega),take_left' h,drop_left' h]
theorem qb {n:Nat} {s a t:List UInt8} (h:yf n s=some (a,t)):a.length=n/\a++t=s:=by
 unfold yf at h;split at h
 ·cases h
 ·injection h with h
  injection h with h1 h2
  subst h1 h2;exact⟨by rw[length_take];omega,List.take_append_drop n s⟩
theorem ze2 (b:UInt8):lev [b]=b.toNat:=by simp[lev]
theorem zaT {n:Nat} (h:n<256):(UInt8.ofNat n).toNat=n:=by rw[UInt8.toNat_ofNat'];omega
theorem ziE {s:ByteArray} (h:s.size<256) (t:List UInt8):nmR (nmB s++t)=some (s,t):=by
 have e:nmB s++t=[UInt8.ofNat s.size]++(B s++t):=rfl;unfold nmR;rw[e,kG (n:=1) rfl];dsimp only;rw[ze2,zaT h,kG (n:=s.size) (yj s).symm];dsimp only;rw[zi5]
theorem ze3 {s r:List UInt8} {n:ByteArray} (h:nmR s=some (n,r)):nmB n++r=s:=by
 unfold nmR at h;split at h
 ·cases h
 rename_i b q hb;split at h
 ·cases h
 rename_i t r' ht;injection h with h
 injection h with h1 h2
 subst h1 h2;obtain⟨h1,h2⟩:=qb hb;obtain⟨h3,h4⟩:=qb ht
 match b,h1 with
 |[x],_=>
  rw[ze2]at h3;unfold nmB;rw[yW,xf,h3,<- h2,<- h4];have:UInt8.ofNat x.toNat=x:=by apply UInt8.toNat_inj.1;exact zaT x.toNat_lt
  rw[this];rfl
theorem zg3 (n:Nat) (t:List UInt8):jv ([vA n]++t)=some (min n 1,t):=by
 unfold jv;rw[kG (n:=1) rfl];dsimp only;have e:lev [vA n]=min n 1:=by rw[ze2];unfold vA;exact zaT (by omega)
 rw[e,if_pos (by omega)]
theorem zg4 {s r:List UInt8} {n:Nat} (h:jv s=some (n,r)):n<=1/\[vA n]++r=s:=by
 unfold jv at h;split at h
 ·cases h
 rename_i b q hb;split at h
 ·rename_i hl;injection h with h
  injection h with h1 h2
  subst h1 h2;obtain⟨h1,h2⟩:=qb hb
  match b,h1 with
  |[x],_=>
   rw[ze2]at hl ⊢;refine⟨hl,?_⟩;rw[<- h2];have:vA x.toNat=x:=by
    unfold vA;apply UInt8.toNat_inj.1;rw[zaT (by omega)];omega
   rw[this]
 ·cases h
def zkG (e:Ent):Prop:=e.1.size<256/\xw e.2.1=0/\e.2.2.2.1<18446744073709551616/\0<=e.2.2.2.2/\e.2.2.2.2<4294967296
theorem zoA {n:Nat} (h:n<4294967296):lev (le 4 n)=n:=by rw[uD];omega
theorem zmN {e:Ent} (h:zkG e) (t:List UInt8):j0 (jd e++t)=some (jW e,t):=by
 obtain⟨h1,h2,h3,h4,h5⟩:=h;unfold j0 jd;simp only [append_assoc];rw[ziE h1];dsimp only;rw[zh5 h2];dsimp only;rw[kG (n:=8) (zv _ _)];dsimp only;rw[kG (n:=4) (zv _ _)];dsimp only;rw[zg3];dsimp only;rw[zit h3,zoA (by omega)];unfold jW;rw[show((e.2.2.2.2.toNat:Nat):Int)=e.2.2.2.2 by omega]
theorem ziF {n:Nat} {a:List UInt8} (h:a.length=n):le n (lev a)=a:=by rw[<- h];exact zj3 a
theorem zmO {s r:List UInt8} {e:Ent} (h:j0 s=some (e,r)):jd e++r=s/\jW e=e/\xw e.2.1=0/\0<=e.2.2.2.2:=by
 unfold j0 at h;split at h
 ·cases h
 rename_i n r1 g1;split at h
 ·cases h
 rename_i cs r2 g2;split at h
 ·cases h
 rename_i x r3 g3;split at h
 ·cases h
 rename_i y r4 g4;split at h
 ·cases h
 rename_i o r5 g5;injection h with h
 injection h with h1 h2
 subst h1 h2;have k1:=ze3 g1;obtain⟨k2,k3⟩:=zkF g2;obtain⟨k4,k5⟩:=qb g3;obtain⟨k6,k7⟩:=qb g4;obtain⟨k8,k9⟩:=zg4 g5;refine⟨?_,?_,k2,by show(0:Int)<=((lev y:Nat):Int);omega⟩
 ·unfold jd;dsimp only;rw[Int.toNat_natCast,ziF k4,ziF k6];simp only [append_assoc];rw[k9,k7,k5,k3,k1]
 ·unfold jW;dsimp only;rw[show min o 1=o by omega]
theorem zmP {s:Snp} (h:s.1.size<256) (t:List UInt8):kF (ju s++t)=some (kv s,t):=by
 unfold kF ju;rw[append_assoc,ziE h];dsimp only;rw[zg3];rfl
theorem zmQ {s r:List UInt8} {x:Snp} (h:kF s=some (x,r)):ju x++r=s/\kv x=x:=by
 unfold kF at h;split at h
 ·cases h
 rename_i n r1 g1;split at h
 ·cases h
 rename_i o r2 g2;injection h with h
 injection h with h1 h2
 subst h1 h2;have k1:=ze3 g1;obtain⟨k8,k9⟩:=zg4 g2;refine⟨?_,?_⟩
 ·unfold ju;dsimp only;rw[append_assoc,k9,k1]
 ·unfold kv;dsimp only;rw[show min o 1=o by omega]
theorem zcq {α:Type} {f:List UInt8->Option (α×List UInt8)} {g:α->List UInt8} {u:α->α}:∀ {l:List α},(∀ x∈l,∀ t,f (g x++t)=some (u x,t))->∀ t,qJ f l.length (l.flatMap g++t)=some (l.map u,t)
 |[],_,t=>rfl
 |x::r,h,t=>by
  rw[length_cons,flatMap_cons,append_assoc,qJ,h x mem_cons_self];dsimp only;rw[zcq (fun y hy=>h y (mem_cons_of_mem _ hy))];rfl
structure ky (c:Cat):Prop where
 tabs:c.1.length<=16
 snaps:c.2.length<=16
 ents:∀ e∈c.1,yY (B e.1)=0/\xw e.2.1=0/\(0<=e.2.2.2.2/\e.2.2.2.2<=4096)/\(e.2.2.1=0↔e.2.2.2.2=0)/\e.2.2.2.1<1099511627776
 snps:∀ s∈c.2,yY (B s.1)=0
 rt:xe (fun e:Ent=>e.1) c.1=true
 rs:xe (fun s:Snp=>s.1) c.2=true
theorem vT {c:Cat}:ku c=true↔ky c:=by
 unfold ku yB vK ze0;simp only [Bool.and_eq_true,decide_eq_true_iff,List.all_eq_true];constructor
 ·rintro⟨⟨h1,h2⟩,⟨h3,h4⟩,⟨h5,h6⟩,h7⟩;exact⟨h1,h2,fun e he=>⟨h3 e he,(h7 e he).1,(h7 e he).2.1,(h7 e he).2.2.1,(h7 e he).2.2.2⟩,h5,h4,h6⟩
 ·rintro⟨h1,h2,h3,h4,h5,h6⟩;exact⟨⟨h1,h2⟩,⟨fun e he=>(h3 e he).1,h5⟩,⟨h4,h6⟩,fun e he=>⟨(h3 e he).2.1,(h3 e he).2.2.1,(h3 e he).2.2.2.1,(h3 e he).2.2.2.2⟩⟩
theorem ky.fit {c:Cat} (h:ky c):∀ e∈c.1,zkG e:=fun e he=>by
 obtain⟨h1,h2,h3,h4,h5⟩:=h.ents e he;have:=qI h1;have hs:=yj e.1;exact⟨by omega,h2,by omega,h3.1,by omega⟩
theorem zkH {c:Cat} (h:ky c):ze1 (qa c)=some (ones c):=by
 have l1:lev [UInt8.ofNat c.1.length]=c.1.length:=by rw[ze2];exact zaT (by have:=h.tabs;omega)
 have l2:lev [UInt8.ofNat c.2.length]=c.2.length:=by rw[ze2];exact zaT (by have:=h.snaps;omega)
 have e:qa c=[UInt8.ofNat c.1.length]++(c.1.flatMap jd++([UInt8.ofNat c.2.length]++(c.2.flatMap ju++[]))):=by unfold qa;simp
 rw[e];unfold ze1;rw[kG (n:=1) rfl];dsimp only;rw[l1,zcq (u:=jW) (fun x hx t=>zmN (h.fit x hx) t)];dsimp only;rw[kG (n:=1) rfl];dsimp only;rw[l2,zcq (u:=kv) (fun x hx t=>zmP (by have:=qI (h.snps x hx);have:=yj x.1;omega) t)];rfl
theorem zcr {α:Type} {f:α->ByteArray} {u:α->α} (hu:∀ x,f (u x)=f x):∀ l:List α,xe f (l.map u)=xe f l
 |[]=>rfl
 |[_]=>rfl
 |x::y::r=>by
  have ih:=zcr hu (y::r);simp only [map_cons,xe,hu]at ih ⊢;rw[ih]
theorem ky.ones {c:Cat} (h:ky c):ky (ones c):=by
 refine⟨by simp[V.ones,h.tabs],by simp[V.ones,h.snaps],fun e he=>?_,fun s hs=>?_,?_,?_⟩
 ·obtain⟨x,hx,rfl⟩:=mem_map.1 he;obtain⟨h1,h2,h3,h4,h5⟩:=h.ents x hx;exact⟨h1,h2,h3,by show min x.2.2.1 1=0↔x.2.2.2.2=0;omega,h5⟩
 ·obtain⟨x,hx,rfl⟩:=mem_map.1 hs;exact h.snps x hx
 ·exact(zcr (u:=jW) (fun _=>rfl) c.1).trans h.rt
 ·exact(zcr (u:=kv) (fun _=>rfl) c.2).trans h.rs
theorem zen {c:Cat} (h:ky c):qs (qa c)=(ones c,0):=by
 unfold qs;rw[zkH h];dsimp only;rw[if_pos (vT.2 h.ones)]
theorem zfz {s:List UInt8} (h:(qs s).2≠0):qs s=(vz,240):=by
 unfold qs at h ⊢;split at h
 ·rfl
 ·rename_i c' hc;split at h
  ·exact absurd rfl h
  ·rename_i hk;rw[if_neg hk]
theorem uq (s:ByteArray):(nmB s).length=s.size+1:=by unfold nmB;rw[length_cons,yj]
theorem ky.len {c:Cat} (h:ky c):(qa c).length<=11000:=by
 have h1:(c.1.flatMap jd).length<=c.1.length*646:=by
  have:∀ l:List Ent,(∀ e∈l,e∈c.1)->(l.flatMap jd).length<=l.length*646:=by
   intro l
   induction l with
   |nil=>intro _;simp
   |cons e r ih=>
    intro hl;have he:=h.ents e (hl e mem_cons_self);have n1:=qI he.1;have n2:=zbH he.2.1;have hs:=yj e.1;have:=ih (fun x hx=>hl x (mem_cons_of_mem _ hx));rw[flatMap_cons,length_append,length_cons];have:(jd e).length<=646:=by
     unfold jd;simp only [length_append,uq,zv,length_singleton];omega
    omega
  exact this c.1 (fun _ hx=>hx)
 have h2:(c.2.flatMap ju).length<=c.2.length*34:=by
  have:∀ l:List Snp,(∀ e∈l,e∈c.2)->(l.flatMap ju).length<=l.length*34:=by
   intro l
   induction l with
   |nil=>intro _;simp
   |cons e r ih=>
    intro hl;have n1:=qI (h.snps e (hl e mem_cons_self));have hs:=yj e.1;have:=ih (fun x hx=>hl x (mem_cons_of_mem _ hx));rw[flatMap_cons,length_append,length_cons];have:(ju e).length<=34:=by
     unfold ju;simp only [length_append,uq,length_singleton];omega
    omega
  exact this c.2 (fun _ hx=>hx)
 have:=h.tabs;have:=h.snaps;have e:=Nat.mul_le_mul_right 646 h.tabs;have e2:=Nat.mul_le_mul_right 34 h.snaps;unfold qa;rw[length_cons,length_append,length_cons];omega
end V
/- Contracts of the package catalog:Check. -/
namespace V
open Go Go.Proofs Go.RowKit Crc
abbrev Raw:=ByteArray×SLC×Nat×Nat×Int
def yl:Raw:=(ByteArray.empty,(none,0,0),0,0,0)
def yb:Ent:=(ByteArray.empty,[],0,0,0)
def ym:Snp:=(ByteArray.empty,0)
def yu:Enc Raw where
 k:=5
 f e:=[.string e.1,.slice e.2.1.1 e.2.1.2.1 e.2.1.2.2,.int .u32 (e.2.2.1:Int),.int .u64 (e.2.2.2.1:Int),.int .i64 e.2.2.2.2]
 len _:=rfl
 one _:=by
  intro v hv
  simp only [mem_cons,not_mem_nil,or_false]at hv
  rcases hv with rfl|rfl|rfl|rfl|rfl<;>rfl
 pos:=by decide
def qc:Enc Snp where
 k:=2
 f e:=[.string e.1,.int .u32 (e.2:Int)]
 len _:=rfl
 one _:=by
  intro v hv
  simp only [mem_cons,not_mem_nil,or_false]at hv
  rcases hv with rfl|rfl<;>rfl
 pos:=by decide
abbrev zeo:List Lf:=[.str,.slc,.int .u32,.int .u64,.int .i64]
def zaw (e:Raw):ByteArray×SLC×Int×Int×Int×Unit:=(e.1,e.2.1,(e.2.2.1:Int),(e.2.2.2.1:Int),e.2.2.2.2,())
abbrev zf1:List Lf:=[.str,.int .u32]
def zdD (e:Snp):ByteArray×Int×Unit:=(e.1,(e.2:Int),())
structure zep (w:World) (r:Raw) (e:Ent):Prop where
 name:r.1=e.1
 rest:r.2.2=e.2.2
 cols:Sli x6 w r.2.1.1 r.2.1.2.1 e.2.1
 cap:r.2.1.2.1<=r.2.1.2.2
theorem zep.ext {w w':World} {r:Raw} {e:Ent} (h:zep w r e) (he:Ext w w'):zep w' r e:=⟨h.name,h.rest,h.cols.ext he,h.cap⟩
structure zaU (w:World) (x:SLC) (raws:List Raw) (es:List Ent):Prop where
 sl:Sli yu w x.1 x.2.1 raws
 len:raws.length=es.length
 at_:∀ i,i<es.length->zep w (raws.getD i yl) (es.getD i yb)
theorem zaU.ext {w w':World} {x:SLC} {raws:List Raw} {es:List Ent} (h:zaU w x raws es) (he:Ext w w'):zaU w' x raws es:=⟨h.sl.ext he,h.len,fun i hi=>(h.at_ i hi).ext he⟩
def xo (w:World) (x y:SLC) (c:Cat):Prop:=(∃ raws,zaU w x raws c.1)/\Sli qc w y.1 y.2.1 c.2/\x.2.1<=x.2.2/\y.2.1<=y.2.2
theorem xo.ext {w w':World} {x y:SLC} {c:Cat} (h:xo w x y c) (he:Ext w w'):xo w' x y c:=by
 obtain⟨⟨raws,h1⟩,h2,h3⟩:=h;exact⟨⟨raws,h1.ext he⟩,h2.ext he,h3⟩
def zN (x y:SLC):List Value:=[.slice x.1 x.2.1 x.2.2,.slice y.1 y.2.1 y.2.2]
theorem yD (x y:SLC):∀ v∈zN x y,v.oneCell'=true:=by
 intro v hv;simp only [zN,mem_cons,not_mem_nil,or_false]at hv;rcases hv with rfl|rfl<;>rfl
abbrev xW:List Lf:=[.slc,.slc]
def yN (x y:SLC):SLC×SLC×Unit:=(x,y,())
theorem zbI:∀ a b:List UInt8,Op.bytesLess a b=ltB a b
 |_,[]=>by cases ‹List UInt8›<;>rfl
 |[],_::_=>rfl
 |x::a,y::b=>by
  rw[Op.bytesLess,ltB,zbI a b];congr 1
theorem zg5 (a b:ByteArray):Op.bytesLess a.toList b.toList=ltB (B a) (B b):=by
 rw[ByteArray.toList_eq,ByteArray.toList_eq,zbI];rfl
theorem zax {α:Type} {f:α->ByteArray}:∀ {l:List α} {i:Nat} {x y:α},l[i]?=some x->l[i+1]?=some y->xe f (l.take (i+2))=(xe f (l.take (i+1))&&ltB (B (f x)) (B (f y)))
 |[],_,_,_,h,_=>by simp at h
 |[a],i,x,y,h,h2=>by simp at h2
 |a::c::r,0,x,y,h,h2=>by
  simp only [List.getElem?_cons_zero,List.getElem?_cons_succ,Option.some.injEq]at h h2;subst h h2;simp[xe]
 |a::c::r,i+1,x,y,h,h2=>by
  have ih:=zax (f:=f) (l:=c::r) (i:=i) (x:=x) (y:=y) (by simpa using h) (by simpa using h2);simp only [List.take_succ_cons,xe]at ih ⊢;rw[ih,Bool.and_assoc]
theorem zdE (s:ByteArray):ze0 s=true↔yY (B s)=0:=by unfold ze0;rw[decide_eq_true_iff]
theorem zcs {α:Type} {f:α->ByteArray} {l:List α} {x:α} (h:x∈l) (hx:yY (B (f x))≠0):yB f l=false:=by
 cases hq:yB f l with
 |false=>rfl
 |true=>
  unfold yB at hq;rw[Bool.and_eq_true,List.all_eq_true]at hq;exact absurd ((zdE _).1 (hq.1 x h)) hx
theorem zbp {α:Type} {f:α->ByteArray}:∀ {l:List α} (n:Nat),xe f l=true->xe f (l.take n)=true
 |[],n,_=>by simp[xe]
 |[a],n,_=>by cases n<;>simp[xe]
 |a::c::r,0,_=>rfl
 |a::c::r,1,_=>rfl
 |a::c::r,n+2,h=>by
  simp only [xe,Bool.and_eq_true]at h;have ih:=zbp (f:=f) (l:=c::r) (n+1) h.2;simp only [List.take_succ_cons,xe,Bool.and_eq_true]at ih ⊢;exact⟨h.1,ih⟩
variable {w:World}
theorem zay {r:Raw}:Calls prog 58 #[.agg (yu.f r).toArray] w (Ret fun v w'=>v=.string r.1/\Ext w w'):=by
 apply znO;unfold S58;refine zr fun r1 w1 hb1 he1 hr1 hz1=>?_;exact zF r.1 hb1 (by rfl) ⟨rfl,he1⟩
theorem zaz {r:Snp}:Calls prog 60 #[.agg (qc.f r).toArray] w (Ret fun v w'=>v=.string r.1/\Ext w w'):=by
 apply znQ;unfold S60;refine zr fun r1 w1 hb1 he1 hr1 hz1=>?_;exact zF r.1 hb1 (by rfl) ⟨rfl,he1⟩
theorem zfQ {x:SLC} {l:List Raw} (h:Sli yu w x.1 x.2.1 l):Calls prog 57 #[.slice x.1 x.2.1 x.2.2,.func (.func 58) #[] #[]] w (Ret fun v w'=>v=.bool (yB (fun e:Raw=>e.1) l)/\Ext w w'):=by
 have hl:=h.len;have hle:=h.le;apply znN;unfold S57;refine zz (fun q w'=>∃ i:Nat,i<=l.length/\q=((i:Int),())/\Ext w w'/\(∀ e∈l.take i,yY (B e.1)=0)/\xe (fun e:Raw=>e.1) (l.take i)=true) (fun q=>(l.length-q.1).toNat) ⟨0,by omega,rfl,Ext.refl w,by simp,rfl⟩ ?_;rintro _ w1 ⟨i,hi,rfl,he1,hn,hr⟩;dsimp only
 by_cases hlt:i<l.length
 ·refine zf (decide_eq_true (by omega)) ?_;refine vE (E:=yu) zaw yl (h.ext he1) (fun _=>rfl) rfl (by omega) (by omega) ?_;rw[Int.toNat_natCast];have eg:l[i]?=some (l.getD i yl):=by rw[getD_eq_getElem?_getD,List.getElem?_eq_getElem hlt];rfl
  have hmem:=mem_of_getElem? eg;have htk:l.take (i+1)=l.take i++[l.getD i yl]:=by rw[take_succ_eq_append_getElem hlt,getD_eq_getElem?_getD,List.getElem?_eq_getElem hlt];rfl
  refine yn (vs:=yu.f (l.getD i yl)) (by rfl) (yu.one _) (fun r5 w2 hb2 he2 hr2=>?_) (by rfl);refine zM fun w3 he3 hz3 hh3=>?_;have hb3:=hb2.ext he3;refine zZ (ls:=zeo) (zaw (l.getD i yl)) hb3 (by rfl) ?_;refine xU (by kernel_rfl) ?_;refine zb zay ?_;rintro _ w4 ⟨rfl,he4⟩;refine⟨_,rfl,?_⟩;refine zb (zbn w4 _) ?_;rintro _ w5 ⟨rfl,he5⟩;refine⟨_,rfl,?_⟩;have he35:=he4.trans he5;have he05:=((he1.trans he2).trans he3).trans he35;refine zg (fun hq=>?_) (fun hq=>?_)
  ·have hq:=bne_iff_ne.1 hq;exact⟨by rw[zcs hmem hq],he05⟩
  have hq:=bne_eq_false_iff_eq.1 hq;have hn':∀ e∈l.take (i+1),yY (B e.1)=0:=fun e he=>by
   rw[htk]at he;rcases mem_append.1 he with e1|e1
   ·exact hn e e1
   ·rw[mem_singleton.1 e1];exact hq
  have hw:wrap .i64 ((i:Int)+1)=((i+1:Nat):Int):=by rw[wrap_i64 (by omega) (by omega)];rfl
  rw[hw]
  by_cases h0:i=0
  ·subst h0;refine zd (by rfl) ?_;refine⟨⟨1,by omega,rfl,he05,hn',?_⟩,by omega⟩;rw[htk];rfl
  ·refine zf (decide_eq_true (by omega)) ?_;rw[show wrap .i64 ((i:Int)-1)=((i-1:Nat):Int) by rw[wrap_i64 (by omega) (by omega)];omega];refine vE (E:=yu) zaw yl (h.ext he05) (fun _=>rfl) rfl (by omega) (by omega) ?_;rw[Int.toNat_natCast];have hb5:=hb3.ext he35;refine zZ (ls:=zeo) (zaw (l.getD i yl)) hb5 (by rfl) ?_;refine xU (by kernel_rfl) ?_;refine zb (zay (r:=l.getD (i-1) yl)) ?_;rintro _ w6 ⟨rfl,he6⟩;refine⟨_,rfl,?_⟩;have hb6:=hb5.ext he6;refine xy (fun p hp=>?_) ?_
   ·simp only [mem_cons,not_mem_nil,or_false]at hp;rcases hp with rfl|rfl|rfl|rfl|rfl<;>simp only [zy,hb6.cell]<;>rfl
   refine xU (by kernel_rfl) ?_;refine zb (zay (r:=l.getD i yl)) ?_;rintro _ w7 ⟨rfl,he7⟩;refine⟨_,rfl,?_⟩;have he07:=(he05.trans he6).trans he7;rw[zg5];have eg1:l[i-1]?=some (l.getD (i-1) yl):=by rw[getD_eq_getElem?_getD,List.getElem?_eq_getElem (by omega)];rfl
   have hst:=zax (f:=fun e:Raw=>e.1) eg1 (by rw[show i-1+1=i by omega];exact eg);rw[show i-1+2=i+1 by omega,show i-1+1=i by omega,hr,Bool.true_and]at hst;refine zg (fun hq2=>?_) (fun hq2=>?_)
   ·refine⟨?_,he07⟩;have hq2:ltB (B (l.getD (i-1) yl).1) (B (l.getD i yl).1)=false:=by simpa using hq2
    have:yB (fun e:Raw=>e.1) l=false:=by
     cases hz:yB (fun e:Raw=>e.1) l with
     |false=>rfl
     |true=>
      unfold yB at hz;rw[Bool.and_eq_true]at hz;have:=zbp (i+1) hz.2;rw[hst,hq2]at this;cases this
    rw[this]
   ·have hq2:ltB (B (l.getD (i-1) yl).1) (B (l.getD i yl).1)=true:=by simpa using hq2
    exact⟨⟨i+1,by omega,rfl,he07,hn',by rw[hst,hq2]⟩,by omega⟩
 ·obtain rfl:i=l.length:=by omega
  refine zd (decide_eq_false (by omega)) ?_;rw[take_of_length_le (by omega)]at hn hr;refine⟨?_,he1⟩;have:yB (fun e:Raw=>e.1) l=true:=by
   unfold yB;rw[hr,Bool.and_true,List.all_eq_true];exact fun e he=>(zdE _).2 (hn e he)
  rw[this]
end V
/- Contracts of the package catalog:Check. -/
namespace V
open Go Go.Proofs Go.RowKit Crc
variable {w:World}
theorem zfR {x:SLC} {l:List Snp} (h:Sli qc w x.1 x.2.1 l):Calls prog 59 #[.slice x.1 x.2.1 x.2.2,.func (.func 60) #[] #[]] w (Ret fun v w'=>v=.bool (yB (fun e:Snp=>e.1) l)/\Ext w w'):=by
 have hl:=h.len;have hle:=h.le;apply znP;unfold S59;refine zz (fun q w'=>∃ i:Nat,i<=l.length/\q=((i:Int),())/\Ext w w'/\(∀ e∈l.take i,yY (B e.1)=0)/\xe (fun e:Snp=>e.1) (l.take i)=true) (fun q=>(l.length-q.1).toNat) ⟨0,by omega,rfl,Ext.refl w,by simp,rfl⟩ ?_;rintro _ w1 ⟨i,hi,rfl,he1,hn,hr⟩;dsimp only
 by_cases hlt:i<l.length
 ·refine zf (decide_eq_true (by omega)) ?_;refine vE (E:=qc) zdD ym (h.ext he1) (fun _=>rfl) rfl (by omega) (by omega) ?_;rw[Int.toNat_natCast];have eg:l[i]?=some (l.getD i ym):=by rw[getD_eq_getElem?_getD,List.getElem?_eq_getElem hlt];rfl
  have hmem:=mem_of_getElem? eg;have htk:l.take (i+1)=l.take i++[l.getD i ym]:=by rw[take_succ_eq_append_getElem hlt,getD_eq_getElem?_getD,List.getElem?_eq_getElem hlt];rfl
  refine yn (vs:=qc.f (l.getD i ym)) (by rfl) (qc.one _) (fun r5 w2 hb2 he2 hr2=>?_) (by rfl);refine zM fun w3 he3 hz3 hh3=>?_;have hb3:=hb2.ext he3;refine zZ (ls:=zf1) (zdD (l.getD i ym)) hb3 (by rfl) ?_;refine xU (by kernel_rfl) ?_;refine zb zaz ?_;rintro _ w4 ⟨rfl,he4⟩;refine⟨_,rfl,?_⟩;refine zb (zbn w4 _) ?_;rintro _ w5 ⟨rfl,he5⟩;refine⟨_,rfl,?_⟩;have he35:=he4.trans he5;have he05:=((he1.trans he2).trans he3).trans he35;refine zg (fun hq=>?_) (fun hq=>?_)
  ·have hq:=bne_iff_ne.1 hq;exact⟨by rw[zcs hmem hq],he05⟩
  have hq:=bne_eq_false_iff_eq.1 hq;have hn':∀ e∈l.take (i+1),yY (B e.1)=0:=fun e he=>by
   rw[htk]at he;rcases mem_append.1 he with e1|e1
   ·exact hn e e1
   ·rw[mem_singleton.1 e1];exact hq
  have hw:wrap .i64 ((i:Int)+1)=((i+1:Nat):Int):=by rw[wrap_i64 (by omega) (by omega)];rfl
  rw[hw]
  by_cases h0:i=0
  ·subst h0;refine zd (by rfl) ?_;refine⟨⟨1,by omega,rfl,he05,hn',?_⟩,by omega⟩;rw[htk];rfl
  ·refine zf (decide_eq_true (by omega)) ?_;rw[show wrap .i64 ((i:Int)-1)=((i-1:Nat):Int) by rw[wrap_i64 (by omega) (by omega)];omega];refine vE (E:=qc) zdD ym (h.ext he05) (fun _=>rfl) rfl (by omega) (by omega) ?_;rw[Int.toNat_natCast];have hb5:=hb3.ext he35;refine zZ (ls:=zf1) (zdD (l.getD i ym)) hb5 (by rfl) ?_;refine xU (by kernel_rfl) ?_;refine zb (zaz (r:=l.getD (i-1) ym)) ?_;rintro _ w6 ⟨rfl,he6⟩;refine⟨_,rfl,?_⟩;have hb6:=hb5.ext he6;refine xy (fun p hp=>?_) ?_
   ·simp only [mem_cons,not_mem_nil,or_false]at hp;rcases hp with rfl|rfl<;>simp only [zy,hb6.cell]<;>rfl
   refine xU (by kernel_rfl) ?_;refine zb (zaz (r:=l.getD i ym)) ?_;rintro _ w7 ⟨rfl,he7⟩;refine⟨_,rfl,?_⟩;have he07:=(he05.trans he6).trans he7;rw[zg5];have eg1:l[i-1]?=some (l.getD (i-1) ym):=by rw[getD_eq_getElem?_getD,List.getElem?_eq_getElem (by omega)];rfl
   have hst:=zax (f:=fun e:Snp=>e.1) eg1 (by rw[show i-1+1=i by omega];exact eg);rw[show i-1+2=i+1 by omega,show i-1+1=i by omega,hr,Bool.true_and]at hst;refine zg (fun hq2=>?_) (fun hq2=>?_)
   ·refine⟨?_,he07⟩;have hq2:ltB (B (l.getD (i-1) ym).1) (B (l.getD i ym).1)=false:=by simpa using hq2
    have:yB (fun e:Snp=>e.1) l=false:=by
     cases hz:yB (fun e:Snp=>e.1) l with
     |false=>rfl
     |true=>
      unfold yB at hz;rw[Bool.and_eq_true]at hz;have:=zbp (i+1) hz.2;rw[hst,hq2]at this;cases this
    rw[this]
   ·have hq2:ltB (B (l.getD (i-1) ym).1) (B (l.getD i ym).1)=true:=by simpa using hq2
    exact⟨⟨i+1,by omega,rfl,he07,hn',by rw[hst,hq2]⟩,by omega⟩
 ·obtain rfl:i=l.length:=by omega
  refine zd (decide_eq_false (by omega)) ?_;rw[take_of_length_le (by omega)]at hn hr;refine⟨?_,he1⟩;have:yB (fun e:Snp=>e.1) l=true:=by
   unfold yB;rw[hr,Bool.and_true,List.all_eq_true];exact fun e he=>(zdE _).2 (hn e he)
  rw[this]
def zkI (g:FuncId) (cap:Array Value) (q:Nat->Bool) (w:World) (l:List Raw):Prop:=∀ (w':World) i,Ext w w'->i<l.length->Calls prog g ([Value.agg (yu.f (l.getD i yl)).toArray]++cap.toList).toArray w' (Ret fun v w''=>v=.bool (q i)/\Ext w' w'')
def xI (q:Nat->Bool) (n:Nat):Nat:=(List.range n).findIdx q
theorem zfA {q:Nat->Bool} {n:Nat} (h:xI q n<n):q (xI q n)=true:=by
 unfold xI at h ⊢;have h2:(List.range n).findIdx q<(List.range n).length:=by rw[length_range];exact h
 have:=List.findIdx_getElem (p:=q) (xs:=List.range n) (w:=h2)
 rwa [getElem_range]at this
theorem zeq {q:Nat->Bool} {n i:Nat} (h:i<xI q n):q i=false:=by
 unfold xI at h;have h2:=List.not_of_lt_findIdx h;rw[getElem_range]at h2
 simpa using h2
theorem zct {x:SLC} {l:List Raw} {g:FuncId} {cap:Array Value} {q:Nat->Bool} (hg:enterable prog g=true) (h:Sli yu w x.1 x.2.1 l) (ht:zkI g cap q w l):
  Calls prog 55 #[.slice x.1 x.2.1 x.2.2,.func (.func g) #[] cap] w (Ret fun v w'=>v=.int .i64 (if xI q l.length<l.length then (xI q l.length:Int) else -1)/\Ext w w'):=by
 have hl:=h.len;have hle:=h.le;apply znL;unfold S55;refine zz (fun y w'=>∃ i:Nat,i<=l.length/\y=((i:Int),())/\Ext w w'/\i<=xI q l.length) (fun y=>(l.length-y.1).toNat) ⟨0,by omega,rfl,Ext.refl w,by omega⟩ ?_;rintro _ w1 ⟨i,hi,rfl,he1,hf⟩;dsimp only
 by_cases hlt:i<l.length
 ·refine zf (decide_eq_true (by omega)) ?_;refine vE (E:=yu) zaw yl (h.ext he1) (fun _=>rfl) rfl (by omega) (by omega) ?_;rw[Int.toNat_natCast];refine xU hg ?_;refine zb (ht w1 i he1 hlt) ?_;rintro _ w2 ⟨rfl,he2⟩;refine⟨_,rfl,?_⟩;refine zg (fun hd=>?_) (fun hd=>?_)
  ·have hfi:xI q l.length=i:=by
    rcases Nat.lt_or_ge i (xI q l.length) with h1|h1
    ·have:=zeq h1;rw[hd]at this;cases this
    ·omega
   refine⟨?_,he1.trans he2⟩;rw[hfi,if_pos hlt]
  ·rw[wrap_i64 (by omega) (by omega)];refine⟨⟨i+1,by omega,rfl,he1.trans he2,?_⟩,by omega⟩;rcases Nat.lt_or_ge i (xI q l.length) with h1|h1
   ·omega
   ·have hfi:xI q l.length=i:=by omega
    have:=zfA (q:=q) (n:=l.length) (by omega);rw[hfi,hd]at this;cases this
 ·obtain rfl:i=l.length:=by omega
  refine zd (decide_eq_false (by omega)) ?_;exact⟨by rw[if_neg (by omega)],he1⟩
theorem zer {x:SLC} {l:List Raw} {g:FuncId} {cap:Array Value} {q:Nat->Bool} (hg:enterable prog g=true) (h:Sli yu w x.1 x.2.1 l) (ht:zkI g cap q w l):
  Calls prog 61 #[.slice x.1 x.2.1 x.2.2,.func (.func g) #[] cap] w (Ret fun v w'=>v=.bool (decide (xI q l.length<l.length))/\Ext w w'):=by
 apply znR;unfold S61;refine zb (zct hg h ht) ?_;rintro _ w1 ⟨rfl,he1⟩;refine⟨_,rfl,?_,he1⟩
 by_cases hq:xI q l.length<l.length
 ·rw[if_pos hq,decide_eq_true hq,decide_eq_true (by omega)]
 ·rw[if_neg hq,decide_eq_false hq];rfl
theorem zkJ {r:Raw} {e:Ent} (h:zep w r e):Calls prog 62 #[.agg (yu.f r).toArray] w (Ret fun v w'=>v=.bool (!vK e)/\Ext w w'):=by
 obtain⟨h1,h2,h3,h4⟩:=h;apply znS;unfold S62;refine zr fun r1 w1 hb1 he1 hr1 hz1=>?_;have hb1:Blk w1 r1 (yu.f r) 44:=hb1;refine zn 1 r.2.1 hb1 (by rfl) ?_;refine zb (uO (h3.ext he1) h4) ?_;rintro _ w2 ⟨rfl,he2⟩;refine⟨_,rfl,?_⟩;have hb2:=hb1.ext he2;have he:=he1.trans he2;have e1:r.2.2.1=e.2.2.1:=by rw[h2]
 have e2:r.2.2.2.1=e.2.2.2.1:=by rw[h2]
 have e3:r.2.2.2.2=e.2.2.2.2:=by rw[h2]
 unfold vK;refine zg (fun hq=>?_) (fun hq=>?_)
 ·have hq:=bne_iff_ne.1 hq;exact⟨by rw[decide_eq_false hq];rfl,he⟩
 have hq:=bne_eq_false_iff_eq.1 hq;rw[decide_eq_true hq,Bool.true_and];refine zn 4 r.2.2.2.2 hb2 (by rfl) ?_;rw[e3];refine zg (fun hq=>?_) (fun hq1=>?_)
 ·have hq:=of_decide_eq_true hq;exact⟨by rw[decide_eq_false (by omega)];rfl,he⟩
 have hq1:=of_decide_eq_false hq1;refine zn 4 r.2.2.2.2 hb2 (by rfl) ?_;rw[e3];refine zg (fun hq=>?_) (fun hq2=>?_)
 ·have hq:=of_decide_eq_true hq;exact⟨by rw[decide_eq_false (by omega)];rfl,he⟩
 have hq2:=of_decide_eq_false hq2;rw[decide_eq_true (p:=0<=e.2.2.2.2/\e.2.2.2.2<=4096) (by omega),Bool.true_and];refine zn 2 ((r.2.2.1:Nat):Int) hb2 (by rfl) ?_;refine zn 4 r.2.2.2.2 hb2 (by rfl) ?_;rw[e3,e1];have eb:(((e.2.2.1:Nat):Int)==0)=decide (e.2.2.1=0):=by
  rw[Bool.eq_iff_iff,beq_iff_eq,decide_eq_true_iff];omega
 have eb2:(e.2.2.2.2==0)=decide (e.2.2.2.2=0):=by
  rw[Bool.eq_iff_iff,beq_iff_eq,decide_eq_true_iff]
 rw[eb,eb2];refine zg (fun hq=>?_) (fun hq3=>?_)
 ·refine⟨?_,he⟩;have:¬(e.2.2.1=0↔e.2.2.2.2=0):=by
   intro hh
   by_cases h0:e.2.2.1=0
   ·rw[decide_eq_true h0,decide_eq_true (hh.1 h0)]at hq;cases hq
   ·rw[decide_eq_false h0,decide_eq_false (fun e=>h0 (hh.2 e))]at hq;cases hq
  rw[decide_eq_false this];rfl
 have hh:e.2.2.1=0↔e.2.2.2.2=0:=by
  have:decide (e.2.2.1=0)=decide (e.2.2.2.2=0):=by simpa using hq3
  exact decide_eq_decide.1 this
 rw[decide_eq_true hh,Bool.true_and];refine zn 3 ((r.2.2.2.1:Nat):Int) hb2 (by rfl) ?_;rw[e2];refine⟨?_,he⟩;congr 1
 by_cases h0:e.2.2.2.1<1099511627776
 ·rw[decide_eq_true h0,decide_eq_false (by omega)];rfl
 ·rw[decide_eq_false h0,decide_eq_true (by omega)];rfl
theorem zkK {raws:List Raw} {es:List Ent} (hl:raws.length=es.length) (h:∀ i,i<es.length->(raws.getD i yl).1=(es.getD i yb).1):yB (fun e:Raw=>e.1) raws=yB (fun e:Ent=>e.1) es:=by
 have e1:raws.map (fun e=>e.1)=es.map (fun e=>e.1):=by
  refine List.ext_getElem (by simp[hl]) (fun i h1 h2=>?_);have h1':i<raws.length:=by simpa using h1
  have h2':i<es.length:=by simpa using h2
  have:=h i h2';rw[getD_eq_getElem?_getD,List.getElem?_eq_getElem h1',getD_eq_getElem?_getD,List.getElem?_eq_getElem h2']at this
  simpa using this
 have g1:∀ {α:Type} (f:α->ByteArray) (l:List α),xe f l=xe id (l.map f):=by
  intro α f l
  induction l with
  |nil=>rfl
  |cons a r ih=>
   cases r with
   |nil=>rfl
   |cons c r=>simp only [xe,map_cons,id]at ih ⊢;rw[ih]
 have g2:∀ {α:Type} (f:α->ByteArray) (l:List α),(l.all fun x=>ze0 (f x))=(l.map f).all ze0:=by
  intro α f l;simp[List.all_map,Function.comp_def]
 unfold yB;rw[g1 _ raws,g1 _ es,g2 _ raws,g2 _ es,e1]
theorem jX {x y:SLC} {c:Cat} (h:xo w x y c):Calls prog 19 #[.agg (zN x y).toArray] w (Ret fun v w'=>v=.int .i64 (if ku c then 0 else 240)/\Ext w w'):=by
 obtain⟨⟨raws,hT⟩,hs,hcx,hcy⟩:=h;have hxl:=hT.sl.len;have hyl:=hs.len;have hlr:=hT.len;apply znu;unfold S19;refine zr fun r1 w1 hb1 he1 hr1 hz1=>?_;have hb1:Blk w1 r1 (zN x y) 25:=hb1;refine yk (fun t w'=>t=(decide (c.1.length>16\/c.2.length>16),())/\w'=w1) ?_ (fun J hJ=>?_);rotate_left
 ·refine zF x hb1 (by rfl) ?_;refine zg (fun hq=>?_) (fun hq=>?_)
  ·have hq:=of_decide_eq_true hq;exact hJ _ _ ⟨by rw[decide_eq_true (.inl (by omega))],rfl⟩
  ·have hq:=of_decide_eq_false hq;refine zn 1 y hb1 (by rfl) ?_;refine hJ _ _ ⟨?_,rfl⟩
   by_cases h2:c.2.length>16
   ·rw[decide_eq_true (show(y.2.1:Int)>16 by omega),decide_eq_true (.inr h2)]
   ·rw[decide_eq_false (show ¬(y.2.1:Int)>16 by omega),decide_eq_false (by omega)]
 rintro _ _ ⟨rfl,rfl⟩;dsimp only;unfold ku;refine zg (fun hq=>?_) (fun hq=>?_)
 ·have hq:=of_decide_eq_true hq;exact⟨by rw[decide_eq_false (by omega)];rfl,he1⟩
 have hq:=of_decide_eq_false hq;rw[decide_eq_true (p:=c.1.length<=16/\c.2.length<=16) (by omega),Bool.true_and];refine zF x hb1 (by rfl) ?_;refine zb (zfQ (hT.sl.ext he1)) ?_;rintro _ w2 ⟨rfl,he2⟩;refine⟨_,rfl,?_⟩;rw[zkK hlr (fun i hi=>(hT.at_ i hi).name)];have he02:=he1.trans he2;refine zg (fun hq=>?_) (fun hq1=>?_)
 ·have hq:yB (fun e:Ent=>e.1) c.1=false:=by simpa using hq
  exact⟨by rw[hq];rfl,he02⟩
 have hq1:yB (fun e:Ent=>e.1) c.1=true:=by simpa using hq1
 rw[hq1,Bool.true_and];have hb2:=hb1.ext he2;refine zn 1 y hb2 (by rfl) ?_;refine zb (zfR (hs.ext he02)) ?_;rintro _ w3 ⟨rfl,he3⟩;refine⟨_,rfl,?_⟩;have he03:=he02.trans he3;refine zg (fun hq=>?_) (fun hq2=>?_)
 ·have hq:yB (fun e:Snp=>e.1) c.2=false:=by simpa using hq
  exact⟨by rw[hq];rfl,he03⟩
 have hq2:yB (fun e:Snp=>e.1) c.2=true:=by simpa using hq2
 rw[hq2,Bool.true_and];refine zF x (hb2.ext he3) (by rfl) ?_;refine zb (zer (q:=fun i=>!vK (c.1.getD i yb)) (by kernel_rfl) (hT.sl.ext he03) (fun w' i he hi=>zkJ (((hT.at_ i (by omega)).ext he03).ext he))) ?_;rintro _ w4 ⟨rfl,he4⟩;refine⟨_,rfl,?_⟩;have he04:=he03.trans he4;rw[hlr]
 by_cases hf:xI (fun i=>!vK (c.1.getD i yb)) c.1.length<c.1.length
 ·refine zf (decide_eq_true hf) ⟨?_,he04⟩;have h1:=zfA hf;have:c.1.all vK=false:=by
   cases hz:c.1.all vK with
   |false=>rfl
   |true=>
    rw[List.all_eq_true]at hz;rw[getD_eq_getElem?_getD,List.getElem?_eq_getElem hf]at h1;have:=hz _ (getElem_mem hf);simp only [Option.getD_some]at h1;rw[this]at h1;cases h1
  rw[this];rfl
 ·refine zd (decide_eq_false hf) ⟨?_,he04⟩;have:c.1.all vK=true:=by
   rw[List.all_eq_true];intro e he;obtain⟨i,hi,rfl⟩:=List.mem_iff_getElem.1 he;have:=zeq (q:=fun i=>!vK (c.1.getD i yb)) (n:=c.1.length) (i:=i) (by omega);rw[getD_eq_getElem?_getD,List.getElem?_eq_getElem hi]at this
   simpa using this
  rw[this];rfl
end V
/- Contracts of the package catalog:Bytes. -/
namespace V
open Go Go.Proofs Go.RowKit Crc
variable {w:World}
theorem Own.neB {w:World} {e t:TypeId} {B n c r:Nat} {A:Option Addr} {vs cs:List Value} (h:Own e w B A n c vs) (hb:Blk w r cs t) (he:e≠t):∀ j,orow A=some j->j≠r:=by
 intro j hj hr;subst hr;rcases h.2 with ⟨hv,_⟩|⟨g,cap,cur,hv,_,hg,_⟩
 ·injection hv with hv;subst hv;cases hj
 ·injection hv with hv
  subst hv;have e1:g=j:=Option.some.inj hj;subst e1;have hb':w.heap[g]?=some _:=hb;rw[hg]at hb';injection hb' with hb'
  injection hb' with _ e2 _
  exact he e2
theorem ze4 {w:World} {B:Nat} {cs:Array Value} {e:TypeId} {K:Nat->WP} (hB:B<=w.heap.size) (hm:cs.size<=9223372036854775807) (h:∀ r w',Own e w' B (some ⟨r,0,none⟩) cs.size cs.size cs.toList->Ext w w'->w.heap.size=r->w'.heap.size=r+1->K r w'):zh (.cells cs e) K w:=
 h _ _ (Own.lit hB hm) ((Ext.refl w).alloc _) rfl (by simp)
theorem zmR {w:World} {B:Nat} {A:Option Addr} {n c:Nat} {bs:List UInt8} (y:UInt8) {v:Int} {K:SLC->WP} (h:Own 5 w B A n c (bV bs)) (hB:B<=w.heap.size) (hv:v=(y.toNat:Int)) (hn:n+1<=140737488355328)
  (hK:∀ A' c' w',Own 5 w' B A' (n+1) c' (bV (bs++[y]))->Grew w w' (orow A) (orow A')->K (A',n+1,c') w'):
  (zh (.cells #[.int .u8 v] 5) fun r=>zw prog (Builtin.append_ #[85,85] 85 #[.slice A n c,.slice (some (aD r)) 1 1]) .slc K) w:=by
 subst hv;refine zd2 (ys:=[Value.int .u8 (y.toNat:Int)]) qy h hB (zaH [y]) (by simp;omega) (by omega) ?_;intro A' c' w' ho hg;refine hK A' c' w' ?_ hg;have:bV (bs++[y])=bV bs++[Value.int .u8 (y.toNat:Int)]:=by rw[xg];rfl
 rw[this];exact ho
theorem zbJ {B:Nat} {A:Option Addr} {n c:Nat} {bs:List UInt8} {s:ByteArray} (h:Own 5 w B A n c (bV bs)) (hB:B<=w.heap.size) (hn:n<=1000000) (hs:s.size<=1000000):
  Calls prog 41 #[.slice A n c,.string s] w (Ret fun r w'=>∃ x:SLC,r=.slice x.1 x.2.1 x.2.2/\Own 5 w' B x.1 x.2.1 x.2.2 (bV (bs++nmB s))/\Grew w w' (orow A) (orow x.1)):=by
 apply znF;unfold S41;rw[qh];refine zmR (UInt8.ofNat s.size) h hB rfl (by omega) ?_;intro A1 c1 w1 h1 g1;have hs1:=g1.grown.size;dsimp only;refine za9 qy (by kernel_rfl) h1 (by omega) (by omega) ?_;intro A2 c2 w2 h2 g2;refine⟨(A2,_,c2),rfl,?_,g1.step g2⟩;have:bs++nmB s=bs++[UInt8.ofNat s.size]++V.B s:=by simp[nmB]
 rw[this];exact h2
theorem zaV {B:Nat} {A:Option Addr} {n c:Nat} {bs:List UInt8} {k:Nat} (h:Own 5 w B A n c (bV bs)) (hB:B<=w.heap.size) (hn:n<=1000000):
  Calls prog 43 #[.slice A n c,.int .u32 (k:Int)] w (Ret fun r w'=>∃ x:SLC,r=.slice x.1 x.2.1 x.2.2/\Own 5 w' B x.1 x.2.1 x.2.2 (bV (bs++[vA k]))/\Grew w w' (orow A) (orow x.1)):=by
 apply znG;unfold S43;have e:wrap .u8 (if (1:Int)<(k:Int) then 1 else (k:Int))=((vA k).toNat:Int):=by
  have:(if (1:Int)<(k:Int) then 1 else (k:Int))=((min k 1:Nat):Int):=by split<;>omega
  rw[this,qh];rfl
 refine zmR (vA k) h hB e (by omega) ?_;intro A1 c1 w1 h1 g1;exact⟨(A1,_,c1),rfl,h1,g1⟩
theorem zaf {α:Type} (f:α->List UInt8) (l:List α) (i:Nat):((l.take i).flatMap f).length<=(l.flatMap f).length:=by
 conv=>rhs;rw[<- List.take_append_drop i l]
 rw[flatMap_append,length_append];omega
theorem zoB {c:Cat} (h:ky c) (e:Ent) (he:e∈c.1):e.1.size<=32/\(xl e.2.1).length<=600:=by
 obtain⟨h1,h2,_⟩:=h.ents e he;have:=qI h1;have:=yj e.1;exact⟨by omega,(zbH h2).2⟩
theorem zaW {x y:SLC} {c:Cat} (h:xo w x y c):Calls prog 11 #[.agg (zN x y).toArray] w (Ret fun v w'=>v=.tuple #[.string (uP c).1,.int .i64 (uP c).2]/\Ext w w'):=by
 obtain⟨⟨raws,hT⟩,hs,hcx,hcy⟩:=id h;have hxl:=hT.sl.len;have hyl:=hs.len;have hlr:=hT.len;apply znq;unfold S11;refine zr fun r1 w1 hb1 he1 hr1 hz1=>?_;have hb1:Blk w1 r1 (zN x y) 25:=hb1;refine zZ (ls:=xW) (yN x y) hb1 (by rfl) ?_;refine zb (jX (h.ext he1)) ?_;rintro _ w2 ⟨rfl,he2⟩;refine⟨_,rfl,?_⟩;have he02:=he1.trans he2;have hb2:=hb1.ext he2;unfold uP;cases hok:ku c with
 |false=>exact zf (by rfl) ⟨rfl,he02⟩
 |true=>
 have hC:=vT.1 hok;have hlen:=hC.len;have ht16:=hC.tabs;have hs16:=hC.snaps;refine zd (by rfl) ?_;refine zF x hb2 (by rfl) ?_;rw[qh,<- hxl,hlr];refine ze4 (B:=w2.heap.size) (Nat.le_refl _) (by simp) fun r5 w3 ho0 he3 hr5 hz3=>?_;have ho0:Own 5 w3 w2.heap.size (some ⟨r5,0,none⟩) 1 1 (bV [UInt8.ofNat c.1.length]):=ho0;have he03:=he02.trans he3;have hb3:=hb2.ext he3;have hs2:=he02.size;have hr1l:=hb2.lt;refine zF x hb3 (by rfl) ?_;have hcl:(qa c).length=(c.1.flatMap jd).length+((c.2.flatMap ju).length+2):=by
  unfold qa;rw[length_cons,length_append,length_cons];omega
 refine zz (fun q w'=>∃ (i:Nat) (A:Option Addr) (m k:Nat),i<=c.1.length/\q=((A,m,k),(i:Int),())/\Ext w w'/\w3.heap.size<=w'.heap.size/\Blk w' r1 (zN x y) 25/\Own 5 w' w2.heap.size A m k (bV (UInt8.ofNat c.1.length::(c.1.take i).flatMap jd))) (fun q=>(c.1.length-q.2.1).toNat)
  ⟨0,_,1,1,by omega,rfl,he03,Nat.le_refl _,hb3,ho0⟩ ?_
 rintro _ w4 ⟨i,A,m,k,hi,rfl,he4,hs4,hb4,ho⟩;dsimp only;have hm:=ho.sl.blen;rw[length_cons]at hm;have hle:=zaf jd c.1 i
 by_cases hlt:i<c.1.length
 ·refine zf (decide_eq_true (by omega)) ?_;refine vE (E:=yu) zaw yl (hT.sl.ext he4) (fun _=>rfl) rfl (by omega) (by omega) ?_;rw[Int.toNat_natCast];have hE:=(hT.at_ i hlt).ext he4;have hmem:c.1.getD i yb∈c.1:=by rw[getD_eq_getElem?_getD,List.getElem?_eq_getElem hlt];exact getElem_mem _
  have htk:c.1.take (i+1)=c.1.take i++[c.1.getD i yb]:=by rw[take_succ_eq_append_getElem hlt,getD_eq_getElem?_getD,List.getElem?_eq_getElem hlt];rfl
  generalize c.1.getD i yb=e at *;generalize raws.getD i yl=r at *;obtain⟨n1,n2⟩:=zoB hC e hmem;obtain⟨g1,g2,g3,g4,g5⟩:=hC.ents e hmem;refine yn (vs:=yu.f r) (by rfl) (yu.one _) (fun r11 w5 hb5 he5 hr5=>?_) (by rfl);have hE5:=hE.ext he5;refine zn 1 r.2.1 hb5 (by rfl) ?_;refine zb (zg2 hE5.cols hE5.cap) ?_;rintro _ w6 ⟨rfl,he6⟩;have eB:zcp e.2.1=(xl e.2.1,0):=by unfold zcp;rw[if_pos g2]
  rw[eB];refine⟨((⟨(xl e.2.1).toArray⟩:ByteArray),0,()),rfl,zd (by rfl) ?_⟩;have hb6:=hb5.ext he6;have he46:=he5.trans he6;have ho6:=ho.ext he46;have hb16:=hb4.ext he46;have hs46:=he46.size;refine zF r.1 hb6 (by rfl) ?_;rw[hE.name];refine zb (zbJ (s:=e.1) ho6 (by omega) (by omega) (by omega)) ?_;rintro _ w7 ⟨x7,rfl,ho7,g7⟩;refine⟨x7,rfl,?_⟩;have hs7:=g7.grown.size;have hm7:=ho7.sl.blen;rw[length_append,uq,length_cons]at hm7;have hb7:=hb6.grown g7.grown (fun hh=>ho6.neB hb6 (by decide) _ hh.symm rfl);have hb17:=hb16.grown g7.grown (fun hh=>ho6.neB hb16 (by decide) _ hh.symm rfl);have e7:Ext w w7:=(he4.trans he46).grown g7.grown (fun j hj=>by have:=ho6.row' j hj;omega);have hszB:(⟨(xl e.2.1).toArray⟩:ByteArray).size=(xl e.2.1).length:=by rw[yj];rfl
  refine za9 qy (by kernel_rfl) ho7 (by omega) (by dsimp only;omega) ?_;intro A8 c8 w8 ho8 g8;have hs8:=g8.grown.size;have hm8:=ho8.sl.blen;have hb8:=hb7.grown g8.grown (fun hh=>ho7.neB hb7 (by decide) _ hh.symm rfl);have hb18:=hb17.grown g8.grown (fun hh=>ho7.neB hb17 (by decide) _ hh.symm rfl);have e8:Ext w w8:=e7.grown g8.grown (fun j hj=>by have:=ho7.row' j hj;omega);refine zM fun w9 he9 hz9 hh9=>?_;have ho9:=ho8.ext he9;have hb9:=hb8.ext he9;have hb19:=hb18.ext he9;have e9:=e8.trans he9;refine zn 3 ((r.2.2.2.1:Nat):Int) hb9 (by rfl) ?_;refine zn 4 r.2.2.2.2 hb9 (by rfl) ?_;rw[hE.rest];refine zb (xi (k:=8) ho9 (by omega) (by dsimp only;omega) (by omega) (by omega) (by omega)) ?_;rintro _ w10 ⟨x10,rfl,ho10,g10⟩;refine⟨x10,rfl,?_⟩;have hs10:=g10.grown.size;have hm10:=ho10.sl.blen;rw[length_append,zv]at hm10;have hb10:=hb9.grown g10.grown (fun hh=>ho9.neB hb9 (by decide) _ hh.symm rfl);have hb110:=hb19.grown g10.grown (fun hh=>ho9.neB hb19 (by decide) _ hh.symm rfl);have e10:Ext w w10:=e9.grown g10.grown (fun j hj=>by have:=ho9.row' j hj;omega);refine xy (yM hb10 (by rw[<- hE.rest];rfl)) ?_;have ew:wrap .u64 e.2.2.2.2=((e.2.2.2.2.toNat:Nat):Int):=by
   rw[show e.2.2.2.2=((e.2.2.2.2.toNat:Nat):Int) by omega,zx (by omega)];rfl
  rw[ew];dsimp only at hm8 hm10;have hl8:x10.2.1=1+((c.1.take i).flatMap jd).length+(e.1.size+1)+(xl e.2.1).length+8:=by
   rw[length_append,length_append,length_cons,uq]at hm10;rw[show(V.B (⟨(xl e.2.1).toArray⟩:ByteArray)).length=(xl e.2.1).length from rfl]at hm10;omega
  refine zb (xi (k:=4) ho10 (by omega) (by omega) (by omega) (by omega) (by omega)) ?_;rintro _ w11 ⟨x11,rfl,ho11,g11⟩;refine⟨x11,rfl,?_⟩;have hs11:=g11.grown.size;have hm11:=ho11.sl.blen;rw[length_append,zv]at hm11;have hm10':=ho10.sl.blen;have hb11:=hb10.grown g11.grown (fun hh=>ho10.neB hb10 (by decide) _ hh.symm rfl);have hb111:=hb110.grown g11.grown (fun hh=>ho10.neB hb110 (by decide) _ hh.symm rfl);have e11:Ext w w11:=e10.grown g11.grown (fun j hj=>by have:=ho10.row' j hj;omega);refine zn 2 ((r.2.2.1:Nat):Int) hb11 (by rfl) ?_;rw[hE.rest];refine zb (zaV (k:=e.2.2.1) ho11 (by omega) (by omega)) ?_;rintro _ w12 ⟨x12,rfl,ho12,g12⟩;refine⟨x12,rfl,?_⟩;have hs12:=g12.grown.size;have hb112:=hb111.grown g12.grown (fun hh=>ho11.neB hb111 (by decide) _ hh.symm rfl);have e12:Ext w w12:=e11.grown g12.grown (fun j hj=>by have:=ho11.row' j hj;omega);refine⟨⟨i+1,x12.1,x12.2.1,x12.2.2,by omega,by rw[wrap_i64 (by omega) (by omega)];rfl,e12,by omega,hb112,?_⟩,by rw[wrap_i64 (by omega) (by omega)];omega⟩;have eb:UInt8.ofNat c.1.length::(c.1.take (i+1)).flatMap jd=UInt8.ofNat c.1.length::(c.1.take i).flatMap jd++nmB e.1++V.B (⟨(xl e.2.1).toArray⟩:ByteArray)++le 8 e.2.2.2.1++le 4 e.2.2.2.2.toNat++[vA e.2.2.1]:=by
   rw[htk,flatMap_append,show V.B (⟨(xl e.2.1).toArray⟩:ByteArray)=xl e.2.1 from rfl];simp[jd]
  rw[eb];exact ho12
 ·obtain rfl:i=c.1.length:=by omega
  refine zd (decide_eq_false (by omega)) ?_;rw[take_of_length_le (by omega)]at ho hm;refine zn 1 y hb4 (by rfl) ?_;rw[qh,<- hyl];refine zmR (UInt8.ofNat c.2.length) ho (by omega) rfl (by omega) ?_;intro A5 c5 w5 ho5 g5;have hs5:=g5.grown.size;have hb5:=hb4.grown g5.grown (fun hh=>ho.neB hb4 (by decide) _ hh.symm rfl);have e5:Ext w w5:=he4.grown g5.grown (fun j hj=>by have:=ho.row' j hj;omega);refine zn 1 y hb5 (by rfl) ?_;dsimp only;generalize hpre:UInt8.ofNat c.1.length::c.1.flatMap jd++[UInt8.ofNat c.2.length]=pre at ho5;have hpl:pre.length=(c.1.flatMap jd).length+2:=by rw[<- hpre];simp
  refine zz (fun q w'=>∃ (i:Nat) (A:Option Addr) (m k:Nat),i<=c.2.length/\q=((A,m,k),(i:Int),())/\Ext w w'/\w3.heap.size<=w'.heap.size/\Blk w' r1 (zN x y) 25/\Own 5 w' w2.heap.size A m k (bV (pre++(c.2.take i).flatMap ju))) (fun q=>(c.2.length-q.2.1).toNat)
   ⟨0,A5,_,c5,by omega,rfl,e5,by omega,hb5,by simpa using ho5⟩ ?_
  rintro _ w6 ⟨i,A,m,k,hi,rfl,he6,hs6,hb6,ho⟩;dsimp only;have hm:=ho.sl.blen;rw[length_append]at hm;have hle:=zaf ju c.2 i
  by_cases hlt:i<c.2.length
  ·refine zf (decide_eq_true (by omega)) ?_;refine vE (E:=qc) zdD ym (hs.ext he6) (fun _=>rfl) rfl (by omega) (by omega) ?_;rw[Int.toNat_natCast];have hmem:c.2.getD i ym∈c.2:=by rw[getD_eq_getElem?_getD,List.getElem?_eq_getElem hlt];exact getElem_mem _
   have htk:c.2.take (i+1)=c.2.take i++[c.2.getD i ym]:=by rw[take_succ_eq_append_getElem hlt,getD_eq_getElem?_getD,List.getElem?_eq_getElem hlt];rfl
   generalize c.2.getD i ym=e at *;have hnm:=qI (hC.snps e hmem);have hsz:=yj e.1;refine yn (vs:=qc.f e) (by rfl) (qc.one _) (fun r31 w7 hb7 he7 hr7=>?_) (by rfl);refine zM fun w8 he8 hz8 hh8=>?_;have hb8:=hb7.ext he8;have he78:=he7.trans he8;have hs78:=he78.size;have ho8:=ho.ext he78;have hb18:=hb6.ext he78;refine zF e.1 hb8 (by rfl) (zn 1 ((e.2:Nat):Int) hb8 (by rfl) ?_);refine zb (zbJ (s:=e.1) ho8 (by omega) (by omega) (by omega)) ?_;rintro _ w9 ⟨x9,rfl,ho9,g9⟩;refine⟨x9,rfl,?_⟩;have hs9:=g9.grown.size;have hm9:=ho9.sl.blen;rw[length_append,length_append,uq]at hm9;have hb9:=hb8.grown g9.grown (fun hh=>ho8.neB hb8 (by decide) _ hh.symm rfl);have hb19:=hb18.grown g9.grown (fun hh=>ho8.neB hb18 (by decide) _ hh.symm rfl);have e9:Ext w w9:=(he6.trans he78).grown g9.grown (fun j hj=>by have:=ho8.row' j hj;omega);refine xy (yM hb9 rfl) ?_;refine zb (zaV (k:=e.2) ho9 (by omega) (by omega)) ?_;rintro _ w10 ⟨x10,rfl,ho10,g10⟩;refine⟨x10,rfl,?_⟩;have hs10:=g10.grown.size;have hb110:=hb19.grown g10.grown (fun hh=>ho9.neB hb19 (by decide) _ hh.symm rfl);have e10:Ext w w10:=e9.grown g10.grown (fun j hj=>by have:=ho9.row' j hj;omega);refine⟨⟨i+1,x10.1,x10.2.1,x10.2.2,by omega,by rw[wrap_i64 (by omega) (by omega)];rfl,e10,by omega,hb110,?_⟩,by rw[wrap_i64 (by omega) (by omega)];omega⟩;have eb:pre++(c.2.take (i+1)).flatMap ju=pre++(c.2.take i).flatMap ju++nmB e.1++[vA e.2]:=by
    rw[htk,flatMap_append];simp[ju]
   rw[eb];exact ho10
  ·obtain rfl:i=c.2.length:=by omega
   refine zd (decide_eq_false (by omega)) ?_;rw[take_of_length_le (by omega)]at ho;refine qO (e:=5) (by kernel_rfl) (by kernel_rfl) (by kernel_rfl) ho.sl ?_;refine⟨?_,he6⟩;have:pre++c.2.flatMap ju=qa c:=by rw[<- hpre];simp[qa]
   rw[this];rfl
end V
/- Contracts of the package catalog:the reader. -/
namespace V
open Go Go.Proofs Go.RowKit Crc
variable {w w':World} {r:Nat} {st:Option (List UInt8)}
def yO (w:World) (r:Nat) (st:Option (List UInt8)):Prop:=match st with
 |some l=>Blk w r [.string (mkB l),.int .i64 0] 92
 |none=>∃ s,Blk w r [.string s,.int .i64 240] 92
theorem yO.only {F:Nat->Prop} (h:yO w r st) (k:Only F w w') (hr:¬F r):yO w' r st:=by
 cases st with
 |some l=>exact Blk.only h k hr
 |none=>obtain⟨s,h⟩:=h;exact⟨s,h.only k hr⟩
theorem yO.ext (h:yO w r st) (he:Ext w w'):yO w' r st:=by
 cases st with
 |some l=>exact Blk.ext h he
 |none=>obtain⟨s,h⟩:=h;exact⟨s,h.ext he⟩
theorem zmS (l:List UInt8) (n:Nat):(mkB l).extract 0 n=mkB (l.take n):=by
 apply ko;rw[jC,yW,yW];simp
theorem zmT (l:List UInt8) (n:Nat):(mkB l).extract n (mkB l).size=mkB (l.drop n):=by
 apply ko;rw[jC,yW,yW,xf];rw[take_of_length_le (by rw[length_drop];omega)]
abbrev OnR (r:Nat) (w w':World):Prop:=Only (fun k=>k=r) w w'
def zbq (r:Nat) (w w':World) (st':Option (List UInt8)):Prop:=yO w' r st'/\OnR r w w'
theorem kz (h:yO w r st) (n:Nat):Calls prog 108 #[.pointer (some ⟨r,0,none⟩),.int .i64 (n:Int)] w (Ret fun v w'=>v=.string (match st.bind (yf n) with|none=>ByteArray.empty|some p=>mkB p.1)/\zbq r w w' ((st.bind (yf n)).map fun p=>p.2)):=by
 apply zlf;unfold S108;cases st with
 |none=>
  obtain⟨s,hb⟩:=h;refine yk (fun _ w'=>w'=w) ?_ (fun J hJ=>zs ?_)
  ·rintro _ _ rfl;refine zs (zn 1 (240:Int) hb (by rfl) (zf (by rfl) ?_));exact⟨rfl,⟨s,hb⟩,Only.refl _ _⟩
  ·exact zn 1 (240:Int) hb (by rfl) (zd (by rfl) (hJ _ _ rfl))
 |some l=>
  have hb:Blk w r [.string (mkB l),.int .i64 0] 92:=h;have hsz:=xf l
  by_cases hn:l.length<n
  ·have ec:(some l).bind (yf n)=none:=by show yf n l=none;unfold yf;rw[if_pos hn]
   rw[ec];refine yk (fun _ w'=>Blk w' r [.string (mkB l),.int .i64 240] 92/\OnR r w w') ?_ (fun J hJ=>zs ?_)
   ·rintro _ w1 ⟨h1,h2⟩;refine zs (zn 1 (240:Int) h1 (by rfl) (zf (by rfl) ?_));exact⟨rfl,⟨_,h1⟩,h2⟩
   ·refine zn 1 (0:Int) hb (by rfl) (zf (by rfl) (zs ?_));refine zF (mkB l) hb (by rfl) (zf (decide_eq_true (by omega)) (zs ?_));refine stE (o:=1) hb (by rw[zy]) (by show 1<2;omega) ?_;intro w1 h1 o1;exact hJ _ _ ⟨h1,o1⟩
  ·have ec:(some l).bind (yf n)=some (l.take n,l.drop n):=by show yf n l=_;unfold yf;rw[if_neg hn]
   rw[ec];refine yk (fun _ w'=>w'=w) ?_ (fun J hJ=>zs ?_)
   ·rintro _ _ rfl;refine zs (zn 1 (0:Int) hb (by rfl) (zd (by rfl) (zs ?_)));refine zF (mkB l) hb (by rfl) (zK ⟨by omega,by omega⟩ (zs ?_));refine zF (mkB l) hb (by rfl) (zK ⟨by omega,by omega⟩ (zs ?_));rw[Int.toNat_natCast,zmS,zmT];refine stE (o:=0) hb rfl (by show 0<2;omega) ?_;intro w1 h1 o1;exact⟨rfl,h1,o1⟩
   ·refine zn 1 (0:Int) hb (by rfl) (zf (by rfl) (zs ?_));exact zF (mkB l) hb (by rfl) (zd (decide_eq_false (by omega)) (hJ _ _ rfl))
theorem zaA (h:yO w r st) {n:Nat} (hn:n<=8):Calls prog 44 #[.pointer (some ⟨r,0,none⟩),.int .i64 (n:Int)] w (Ret fun v w'=>v=.int .u64 ((match st.bind (yf n) with|none=>0|some p=>lev p.1:Nat):Int)/\zbq r w w' ((st.bind (yf n)).map fun p=>p.2)):=by
 apply znH;unfold S44;refine zb (kz h n) ?_;rintro _ w1 ⟨rfl,h1,o1⟩;refine⟨_,rfl,?_⟩;have hlen:(match st.bind (yf n) with|none=>ByteArray.empty|some p=>mkB p.1).size<=8:=by
  cases hq:st.bind (yf n) with
  |none=>exact Nat.zero_le _
  |some p=>
   show(mkB p.1).size<=8;rw[xf];cases st with
   |none=>cases hq
   |some l=>
    have:=(qb (show yf n l=some (p.1,p.2) from hq)).1;omega
 refine kU (u:=.string) (e:=5) (by kernel_rfl) (by kernel_rfl) (by kernel_rfl) (by omega) ?_;intro cc w2 hsl he2 hs2 hcc;refine zb (qP hsl hlen) ?_;rintro _ w3 ⟨rfl,he3⟩;refine⟨_,rfl,?_,h1.ext (he2.trans he3),Only.trans o1 (Only.zB (F:=fun k=>k=r) (he2.trans he3)) (fun j hj=>.inl hj)⟩;congr 1;cases st.bind (yf n) with
 |none=>rfl
 |some p=>show((lev (V.B (mkB p.1)):Nat):Int)=_;rw[yW]
theorem OnR.trans {r:Nat} {a b c:World} (h:OnR r a b) (k:OnR r b c):OnR r a c:=Only.trans h k (fun j hj=>.inl hj)
theorem zg6 (h:yO w r st):Calls prog 45 #[.pointer (some ⟨r,0,none⟩)] w (Ret fun v w'=>v=.string (match st.bind nmR with|none=>ByteArray.empty|some p=>p.1)/\zbq r w w' ((st.bind nmR).map fun p=>p.2)):=by
 apply znI;unfold S45;refine zb (zaA h (n:=1) (by omega)) ?_;rintro _ w1 ⟨rfl,h1,o1⟩;refine⟨_,rfl,?_⟩;cases st with
 |none=>
  refine zb (kz h1 0) ?_;rintro _ w2 ⟨rfl,h2,o2⟩;exact⟨_,rfl,rfl,h2,o1.trans o2⟩
 |some l=>
  show ze _ _ [_,.int .i64 (wrap .i64 (((match yf 1 l with|none=>0|some p=>lev p.1:Nat)):Int))] _ _ w1;have hn:(some l).bind nmR=nmR l:=rfl;rw[hn];unfold nmR;have h1:yO w1 r ((yf 1 l).map fun p=>p.2):=h1;cases hc:yf 1 l with
  |none=>
   rw[hc]at h1;refine zb (kz h1 0) ?_;rintro _ w2 ⟨rfl,h2,o2⟩;exact⟨_,rfl,rfl,h2,o1.trans o2⟩
  |some p=>
   obtain⟨q,t⟩:=p;rw[hc]at h1;obtain⟨c1,c2⟩:=qb hc;have hlv:lev q<256:=by
    have:=jA q;rw[c1]at this;exact this
   dsimp only;rw[wrap_i64 (by omega) (by omega)];refine zb (kz h1 (lev q)) ?_;rintro _ w2 ⟨rfl,h2,o2⟩;refine⟨_,rfl,?_⟩;have e:((some (q,t)).map fun p:List UInt8×List UInt8=>p.2).bind (yf (lev q))=yf (lev q) t:=rfl;rw[e]at h2 ⊢;cases hc2:yf (lev q) t with
   |none=>rw[hc2]at h2;exact⟨rfl,h2,o1.trans o2⟩
   |some p2=>rw[hc2]at h2;exact⟨rfl,h2,o1.trans o2⟩
theorem zbK (h:yO w r st):Calls prog 47 #[.pointer (some ⟨r,0,none⟩)] w (Ret fun v w'=>(∃ k:Nat,v=.int .u32 (k:Int)/\∀ p,st.bind jv=some p->k=p.1)/\zbq r w w' ((st.bind jv).map fun p=>p.2)):=by
 apply znK;unfold S47;refine zb (zaA h (n:=1) (by omega)) ?_;rintro _ w1 ⟨rfl,h1,o1⟩;refine⟨_,rfl,zs ?_⟩;cases st with
 |none=>
  obtain⟨s,hb⟩:=h1;refine zn 1 (240:Int) hb (by rfl) (zd (by rfl) ?_);exact⟨⟨0,by rfl,fun p hp=>by cases hp⟩,⟨s,hb⟩,o1⟩
 |some l=>
  have hn:(some l).bind jv=jv l:=rfl;rw[hn];have h1:yO w1 r ((yf 1 l).map fun p=>p.2):=h1;show ldW _ _ _ w1;unfold jv;cases hc:yf 1 l with
  |none=>
   rw[hc]at h1;obtain⟨s,hb⟩:=h1;refine zn 1 (240:Int) hb (by rfl) (zd (by rfl) ?_);exact⟨⟨0,by show Value.int .u32 (wrap .u32 (((match yf 1 l with|none=>0|some p=>lev p.1:Nat)):Int))=_;rw[hc];rfl,fun p hp=>by cases hp⟩,⟨s,hb⟩,o1⟩
  |some p=>
   obtain⟨q,t⟩:=p;rw[hc]at h1;have hb:Blk w1 r [.string (mkB t),.int .i64 0] 92:=h1;obtain⟨c1,c2⟩:=qb hc;have hlv:lev q<256:=by
    have:=jA q;rw[c1]at this;exact this
   have ev:(match (some l).bind (yf 1) with|none=>0|some p=>lev p.1)=lev q:=by show(match yf 1 l with|none=>0|some p=>lev p.1)=_;rw[hc]
   rw[ev,show wrap .u32 ((lev q:Nat):Int)=((lev q:Nat):Int) by rw[wrap_u32];omega];refine zn 1 (0:Int) hb (by rfl) (zf (by rfl) ?_);dsimp only
   by_cases h1':lev q<=1
   ·rw[if_pos h1'];refine zd (decide_eq_false (by omega)) ?_;exact⟨⟨lev q,rfl,fun p hp=>by cases hp;rfl⟩,hb,o1⟩
   ·rw[if_neg h1'];refine zf (decide_eq_true (by omega)) (zs ?_);refine stE (o:=1) hb (by rw[zy]) (by show 1<2;omega) ?_;intro w2 h2 o2;exact⟨⟨lev q,rfl,fun p hp=>by cases hp⟩,⟨_,h2⟩,o1.trans o2⟩
theorem zg7 (h:yO w r st) (hr:r<w.heap.size) (hsz:∀ l,st=some l->l.length<=1000000):Calls prog 46 #[.pointer (some ⟨r,0,none⟩)] w (Ret fun v w'=>(∃ x:SLC,v=.slice x.1 x.2.1 x.2.2/\∀ p,st.bind xN=some p->Owni x6 62 w' w.heap.size x.1 x.2.1 x.2.2 p.1)/\zbq r w w' ((st.bind xN).map fun p=>p.2)):=by
 apply znJ;unfold S46;refine zs ?_;cases st with
 |none=>
  obtain⟨s,hb⟩:=h;refine zn 1 (240:Int) hb (by rfl) (zf (by rfl) ?_);exact⟨⟨(none,0,0),rfl,fun p hp=>by cases hp⟩,⟨s,hb⟩,Only.refl _ _⟩
 |some l=>
  have hb:Blk w r [.string (mkB l),.int .i64 0] 92:=h;have hn:(some l).bind xN=xN l:=rfl;rw[hn];refine zn 1 (0:Int) hb (by rfl) (zd (by rfl) (zs ?_));refine zF (mkB l) hb (by rfl) ?_;refine zb (zh4 (s:=mkB l) (by rw[xf];have:=hsz l rfl;omega)) ?_;rintro _ w1 ⟨u,rfl,hR⟩;obtain⟨hR,he1⟩:=hR;rw[yW]at hR;have hb1:=hb.ext he1;cases hq:xN l with
  |none=>
   rw[hq]at hR;have hR:u=((none,0,0),⟨#[]⟩,171,()):=hR;subst hR;refine⟨_,rfl,zf (by rfl) (zs ?_)⟩;refine stE (o:=1) hb1 (by rw[zy]) (by show 1<2;omega) ?_;intro w2 h2 o2;refine zs (stE (o:=0) h2 rfl (by show 0<2;omega) ?_);intro w3 h3 o3;exact⟨⟨(none,0,0),rfl,fun p hp=>by cases hp⟩,⟨_,h3⟩,(OnR.trans (Only.zB he1) o2).trans o3⟩
  |some p=>
   obtain⟨cs,t⟩:=p;rw[hq]at hR;obtain⟨a1,a2,a3⟩:=hR;obtain⟨u1,u2,u3,u4⟩:=u;dsimp only at a1 a2 a3;subst a2 a3;refine⟨(u1,⟨t.toArray⟩,0,()),rfl,zd (by rfl) (zs ?_)⟩;refine stE (o:=0) hb1 rfl (by show 0<2;omega) ?_;intro w2 h2 o2;refine⟨⟨u1,rfl,fun p hp=>?_⟩,h2,OnR.trans (Only.zB he1) o2⟩;cases hp;exact a1.only o2 (fun j hj e=>by have:=a1.row j hj;have:j=r:=e;omega)
end V
end Go.Proofs.YtplgodmmmppmeaaGreat
