/- Texts of mine, merged (wip/tool/mergep.py): KSpa7, KCounts4, KSpa8, KSpa9, HR3, KWalk, KWalk2, KWalk3, Good, Good2, Good3, Taken, KCommit, KOpen, Great, Great2, BlobP, Great3, TreeP, KTree1, KTree2, KAtS, KAt2, KMark, KGreat, KTree3, KTree4, KTree5, KBlob1, KTree6. -/
import Derived.Test.YtplgodmmmppmeaaGreatM4
import Derived.Test.YtplgodmmmppmeaaGreatM3
open Go.IntKind (wrap)
open Go.Proofs.Tryz (prog)
open List (mem_cons_self mem_cons_of_mem mem_cons length_cons map_map mem_append mem_append_left drop_drop mem_range mem_of_getElem? getElem_mem mem_iff_getElem map_cons mem_map append_assoc nodup_cons foldl_cons length_nil append_nil length_map length_set eq_nil_of_length_eq_zero range_succ map_congr_left length_append drop_of_length_le take_of_length_le getD_eq_getElem?_getD drop_eq_getElem_cons mem_singleton not_mem_nil take_succ_eq_append_getElem all_eq_true flatMap_cons length_take length_drop take_add_one length_replicate take_left' drop_left' length_singleton map_append length_range getElem_range flatMap_append count_cons count_eq_zero)
set_option linter.unusedVariables false
set_option linter.unusedSimpArgs false
namespace Go.Proofs.YtplgodmmmppmeaaGreat
/- Contracts of the package space:Share,Count,Drop. -/
namespace V
open Go Go.Proofs Go.RowKit Crc
variable {w w':World} {b db:Nat} {S:Spa} {F Fd:Nat->Prop} {x:SLC} {hb hr nb nr:Nat} {m:MkL}
theorem SpM.nrF (h:SpM w b db S F Fd x hb hr nb nr m):F nr:=(h.own nr).2 (.inr (by simp[yR]))
theorem SpM.zhx (h:SpM w b db S F Fd x hb hr nb nr m) {w0:World} (hg:w0.grownBy w' (some nr)):Only F w0 w':=Only.z7 hg (fun j hj=>.inl (by injection hj with hj;subst hj;exact h.nrF))
def Spa.share (S:Spa) (n:Nat):Spa×Int:=if S.asked n=false then (S,2) else ({ S with now:=zac S.now n },zab S.now n)
theorem ziE (h:SpM w b db S F Fd x hb hr nb nr m) {n:Nat} (hn:n<4294967296):
  Calls prog 90 #[.pointer (some ⟨b,0,none⟩),.int .u32 (n:Int)] w (Ret fun v w'=>v=.int .i64 (S.share n).2/\SpM w' b db (S.share n).1 F Fd x hb hr nb nr m/\Only F w w'):=by
 apply zpv;unfold S90 Spa.share;refine zd (by rfl) (zb (vT h hn) ?_);rintro _ w1 ⟨rfl,hw1⟩;refine⟨_,rfl,?_⟩;rw[hw1];refine zg (fun hq=>?_) (fun hq=>?_)
 ·have hq:S.asked n=false:=by simpa using hq
  rw[if_pos hq];exact⟨rfl,h,Only.refl F w⟩
 have hq:S.asked n=true:=by simpa using hq
 rw[if_neg (by rw[hq];simp)];obtain⟨t,hbx⟩:=h.box;refine zr (qh (l:=.ptr) 8 (some ⟨nb,0,none⟩) hbx (by rfl) (by rfl) ?_);obtain⟨q,c⟩:=h.nowC;refine zb (zld c n hn) ?_;rintro _ w2 ⟨rfl,hc,hg⟩;exact⟨_,rfl,rfl,h.kz hg hc (by unfold zac;split<;>simp),h.zhx hg⟩
theorem zhy {k:IntKind} {w:World} {e:TypeId} {B:Nat} {A:Option Addr} {n c:Nat} {xs:List Nat} {i:Int} {v:Nat} {K:WP} (h:Owni (zv k) e w B A n c xs) (h0:0<=i) (h1:i<(n:Int))
  (hK:∀ w',Owni (zv k) e w' B A n c (xs.set i.toNat v)->w.grownBy w' (orow A)->K w'):
  (zc (0<=i/\i<((n:Nat):Int))<|zh A fun p=>stW (p.add (Int.toNat i*1)) (.int k (v:Int)) K) w:=by
 refine zfm (e:=e) (B:=B) (c:=c) (vs:=(zv k).flat xs) h h0 h1 fun w' ho hg=>hK w' ?_ (by rw[xn]at hg;exact hg);rw[znI]at ho;exact ho
theorem zll {w:World} {B:Nat} {A:Option Addr} {n c:Nat} {xs:List Nat} (h:Owni (zv .u32) 41 w B A n c xs) (hn:n<=1000000):
  Calls prog 89 #[.slice A n c] w (Ret fun v w'=>v=.tuple #[]/\Owni (zv .u32) 41 w' B A n c xs.reverse/\w.grownBy w' (orow A)):=by
 apply zpu;unfold S89;have hl:=h.len;rw[wrap_i64 (by omega) (by omega)];refine zw (fun y w'=>∃ (i:Nat) (ys:List Nat),2*i<=n+1/\y=((i:Int),(n:Int)-1-i,())/\ys.length=n/\(∀ k,k<n->ys.getD k 0=if k<i\/n<=k+i then xs.getD (n-1-k) 0 else xs.getD k 0)/\Owni (zv .u32) 41 w' B A n c ys/\w.grownBy w' (orow A)) (fun y=>(n-y.1).toNat)
  ⟨0,xs,by omega,by simp,hl,fun k hk=>by rw[if_neg (by omega)],h,xJ _ _⟩ ?_
 rintro _ w1 ⟨i,ys,hi,rfl,hyl,hys,ho,hg⟩;dsimp only
 by_cases hlt:(i:Int)<(n:Int)-1-i
 ·refine zf (decide_eq_true hlt) ?_;refine zK fun w2 he2 _ _=>?_;have ho:=ho.ext he2;have hg:=xg hg (xX he2 none) (fun j hj=>by cases hj);refine z6 ho.sl (by omega) (by omega) ?_;refine z6 ho.sl (by omega) (by omega) ?_;have ej:((n:Int)-1-i).toNat=n-1-i:=by omega
  refine zhy ho (by omega) (by omega) ?_;intro w3 ho3 hg3;refine zhy ho3 (by omega) (by omega) ?_;intro w4 ho4 hg4;rw[ej,Int.toNat_natCast]at ho4;refine⟨⟨i+1,(ys.set i (ys.getD (n-1-i) 0)).set (n-1-i) (ys.getD i 0),by omega,?_,by simp[hyl],fun k hk=>?_,ho4,xg (xg hg hg3 (fun j hj=>.inl hj)) hg4 (fun j hj=>.inl hj)⟩,?_⟩
  ·rw[show wrap .i64 ((i:Int)+1)=((i+1:Nat):Int) from by rw[wrap_i64 (by omega) (by omega)];rfl,show wrap .i64 ((n:Int)-1-i-1)=(n:Int)-1-((i+1:Nat):Int) from by rw[wrap_i64 (by omega) (by omega)];omega]
  ·rw[ym,ym];simp only [length_set,hyl];have h1:=hys i (by omega);have h2:=hys (n-1-i) (by omega);rw[if_neg (by omega)]at h1 h2
   by_cases e1:n-1-i=k
   ·subst e1;rw[if_pos ⟨rfl,hk⟩,if_pos (by omega),h1];congr 1;omega
   ·rw[if_neg (fun e=>e1 e.1)]
    by_cases e2:i=k
    ·subst e2;rw[if_pos ⟨rfl,hk⟩,if_pos (by omega),h2]
    ·rw[if_neg (fun e=>e2 e.1),hys k hk]
     by_cases e3:k<i\/n<=k+i
     ·rw[if_pos e3,if_pos (by omega)]
     ·rw[if_neg e3,if_neg (by omega)]
  ·rw[wrap_i64 (by omega) (by omega)];omega
 ·refine zd (decide_eq_false hlt) ⟨rfl,?_,hg⟩;have e:ys=xs.reverse:=by
   refine qE (by simp[hyl,hl]) (fun k=>?_)
   by_cases hk:k<n
   ·rw[hys k hk,getD_eq_getElem?_getD (l:=xs.reverse),List.getElem?_reverse (by omega),hl,<- getD_eq_getElem?_getD];split
    ·rfl
    ·congr 1;omega
   ·rw[getD_eq_getElem?_getD,getD_eq_getElem?_getD,List.getElem?_eq_none (by omega),List.getElem?_eq_none (by simp;omega)]
  rw[<- e];exact ho
theorem Owni.trunc {w:World} {e:TypeId} {B:Nat} {A:Option Addr} {n c:Nat} {ys:List Nat} {k:Nat} (h:Owni (zv .u32) e w B A n c (ys++[k])):zo A 0 c 1=A/\n=ys.length+1/\Owni (zv .u32) e w B A ys.length c ys:=by
 have hl:=h.len;rw[length_append,length_singleton]at hl;have hle:=h.le;obtain⟨h1,h2⟩:=h;rcases h2 with ⟨_,hn⟩|⟨g,cap,cur,hv,hB,hg,hnc,hcm,hcs,ht⟩
 ·omega
 ·injection hv with hA hn hc
  subst hA hc;refine⟨?_,hl.symm,⟨by rw[(zv .u32).xf],.inr ⟨g,c,cur,rfl,hB,hg,by omega,hcm,hcs,?_⟩⟩⟩
  ·unfold zo;split
   ·rename_i h0;omega
   ·simp[Addr.add]
  ·have e1:cur.toList.take (ys.length*(zv .u32).k)=((zv .u32).flat (ys++[k])).take (ys.length*(zv .u32).k):=by
    rw[<- ht,List.take_take,Nat.min_eq_left (Nat.mul_le_mul_right _ (by omega))]
   have e2:=(zv .u32).xf ys;rw[e1,(zv .u32).zdt,List.take_append_of_le_length (by omega),take_of_length_le (by omega)]
theorem Drp.inv {ask:Nat->Bool} {pg:PgF} {c st c':List Nat} {n:Nat} {e:Int} (h:Drp ask pg c (n::st) c' e):
  (c.getD n 0≠1/\atE c n≠0/\c'=c/\e=atE c n)\/(c.getD n 0≠1/\atE c n=0/\Drp ask pg (xr c n) st c' e)\/(c.getD n 0=1/\ask n=false/\c'=c/\e=2)\/
  (c.getD n 0=1/\ask n=true/\(pg n).2=e/\e≠0/\c'=c)\/(c.getD n 0=1/\ask n=true/\(pg n).2=0/\Drp ask pg (xr c n) (zU pg n++st) c' e):=by
 cases h with
 |bad h1 h2=>exact .inl ⟨h1,h2,rfl,rfl⟩
 |dec h1 h2 h3=>exact .inr (.inl ⟨h1,h2,h3⟩)
 |noask h1 h2=>exact .inr (.inr (.inl ⟨h1,h2,rfl,rfl⟩))
 |err h1 h2 h3 h4=>exact .inr (.inr (.inr (.inl ⟨h1,h2,h3,h4,rfl⟩)))
 |last h1 h2 h3 h4=>exact .inr (.inr (.inr (.inr ⟨h1,h2,h3,h4⟩)))
theorem zbQ {N:Nat} {bs:List UInt8}:(xW N bs).1.2.1.length<=1024/\∀ k∈(xW N bs).1.2.1,2<=k/\k<N:=by
 unfold xW;split
 ·rename_i hc;obtain⟨h0,h1,h2,h3,h4⟩:=hc;refine⟨?_,h4⟩;dsimp only;have hdl:(B (yn bs).1.2.2).length<=4096:=by
   have:=zfq (size:=(bs.length:Int)) (f:=xq bs) (by rw[(uF h0).2]);rw[(uF h0).1];omega
  unfold ky;rw[zfw];omega
 ·simp[xb]
theorem zhz {c:List Nat} {n:Nat} (h:atE c n=0):(xr c n).sum+1=c.sum:=by
 rcases zcM c n with ⟨_,h2,h3,h4⟩|h2|h2
 ·unfold xr;rw[if_pos h];have:=zfB c n (c.getD n 0-1) h3;omega
 ·omega
 ·omega
theorem zj9 {α:Type} (l:List α):l=[]\/∃ (r:List α) (a:α),l=r++[a]:=by
 rcases List.eq_nil_or_concat l with h|⟨r,a,h⟩
 ·exact .inl h
 ·exact .inr ⟨r,a,by rw[h,List.concat_eq_append]⟩
theorem zqv {l:List Nat} {B:Nat} (h:∀ n∈l,n<=B):l.sum<=l.length*B:=by
 induction l with
 |nil=>simp
 |cons a r ih=>
  have h1:=ih (fun n hn=>h n (mem_cons_of_mem _ hn));have h2:=h a mem_cons_self;rw[List.sum_cons,length_cons,Nat.add_mul];omega
theorem zeT (h:SpM w b db S F Fd x hb hr nb nr m) {n:Nat} (hn:n<4294967296) {c':List Nat} {e:Int} (hD:S.asked n=true->Drp S.asked S.page S.now [n] c' e) (hno:S.asked n=false->c'=S.now/\e=2):
  Calls prog 28 #[.pointer (some ⟨b,0,none⟩),.int .u32 (n:Int)] w (Ret fun v w'=>v=.int .i64 e/\SpM w' b db { S with now:=c' } F Fd x hb hr nb nr m/\Only F w w'):=by
 have hFlt:=h.lt;have hdim:=h.dims;have hN:=hdim.n;have hnrlt:=hFlt nr h.nrF;have hsum0:S.now.sum<=4096*65535:=by
  obtain⟨q,hc⟩:=h.nowC;have:=zqv (l:=S.now) (B:=65535) (fun a ha=>by have:=hc.fits a ha;omega);have hl:=hc.len;exact Nat.le_trans this (Nat.mul_le_mul_right _ hl.2)
 apply zoL;unfold S28;refine zd (by rfl) (zb (vT h hn) ?_);rintro _ w1 ⟨rfl,hw1⟩;refine⟨_,rfl,?_⟩;rw[hw1];refine zg (fun hq=>?_) (fun hq=>?_)
 ·have hq:S.asked n=false:=by simpa using hq
  obtain⟨rfl,rfl⟩:=hno hq;exact⟨rfl,h,Only.refl F w⟩
 have hq:S.asked n=true:=by simpa using hq
 have hD:=hD hq;refine zq fun r2 w2 hb2 he2 hr2 hz2=>?_;have ho2:Owni (zv .u32) 41 w2 r2 (some ⟨r2,0,none⟩) 1 1 [n]:=kv (by exact hb2) rfl (by omega) (Nat.le_refl _);refine zjg (fun y k w'=>∃ (cc xs:List Nat) (A:Option Addr) (cp:Nat),y=((A,xs.length,cp),())/\k=cc.sum/\Drp S.asked S.page cc xs.reverse c' e/\SpM w' b db { S with now:=cc } F Fd x hb hr nb nr m/\Owni (zv .u32) 41 w' r2 A xs.length cp xs/\(∀ a∈xs,a<4294967296)/\Only F w w'/\xs.length+1100*cc.sum<=1+1100*S.now.sum)
  S.now.sum ⟨S.now,[n],_,1,rfl,rfl,hD,h.ext he2,ho2,by simpa using hn,Only.zG he2,by simp⟩ ?_
 rintro _ k w3 J ⟨cc,xs,A,cp,rfl,rfl,hD,hS,ho,h32,hO,hbound⟩ hJ;dsimp only;rcases zj9 xs with rfl|⟨ys,a,rfl⟩
 ·refine zd (decide_eq_false (by simp)) ?_;rw[List.reverse_nil]at hD;cases hD;exact⟨rfl,hS,hO⟩
 have hle:=ho.le;obtain⟨ecut,hyl,hoy⟩:=ho.trunc;rw[ecut];rw[hyl]at ho hle ⊢;rw[hyl]at hbound;refine zf (decide_eq_true (by omega)) ?_;have ew:wrap .i64 (((ys.length+1:Nat):Int)-1)=(ys.length:Int):=by rw[wrap_i64 (by omega) (by omega)];omega
 rw[ew];refine z6 ho.sl (by omega) (by omega) ?_;rw[Int.toNat_natCast];have ea:(ys++[a]).getD ys.length 0=a:=by simp
 rw[ea];have ha:=h32 a (by simp);refine zL ⟨by omega,by omega⟩ ?_;obtain⟨t,hbx⟩:=hS.box;refine zr (qh (l:=.ptr) 8 (some ⟨nb,0,none⟩) hbx (by rfl) (by rfl) ?_);refine zb (vi hS a ha) ?_;rintro _ w4 ⟨rfl,hw4⟩;refine⟨_,rfl,?_⟩;rw[hw4];dsimp only;rw[List.reverse_append,List.reverse_singleton,List.singleton_append]at hD;have hr2F:∀ j,orow A=some j->w.heap.size<=j:=fun j hj=>by have:=ho.row j hj;omega
 have hnrA:∀ j,some nr=some j->orow A≠some j:=fun j hj e=>by injection hj with hj;subst hj;have:=hr2F _ e;omega
 have hO':∀ {w5:World},w3.grownBy w5 (some nr)->Only F w w5:=fun hg=>Only.trans hO (h.zhx hg) (fun j hj=>.inl hj);rcases hD.inv with ⟨d1,d2,d3,d4⟩|⟨d1,d2,d3⟩|⟨d1,d2,d3,d4⟩|⟨d1,d2,d3,d4,d5⟩|⟨d1,d2,d3,d4⟩
 ·refine zf (bne_iff_ne.2 (by omega)) ?_;refine zr (qh (l:=.ptr) 8 (some ⟨nb,0,none⟩) hbx (by rfl) (by rfl) ?_);refine zb (zdf hS ha) ?_;rintro _ w5 ⟨rfl,hS5,hg5⟩;refine⟨((zbL cc a:Int),atE cc a,()),rfl,zf (bne_iff_ne.2 d2) ?_⟩;have es:xr cc a=cc:=by unfold xr;rw[if_neg d2]
  dsimp only at hS5;rw[es]at hS5;subst d3 d4;exact⟨rfl,hS5,hO' hg5⟩
 ·refine zf (bne_iff_ne.2 (by omega)) ?_;refine zr (qh (l:=.ptr) 8 (some ⟨nb,0,none⟩) hbx (by rfl) (by rfl) ?_);refine zb (zdf hS ha) ?_;rintro _ w5 ⟨rfl,hS5,hg5⟩;refine⟨((zbL cc a:Int),atE cc a,()),rfl,?_⟩;dsimp only;rw[d2];refine zd (by rfl) ?_;have hsum:=zhz d2;exact hJ _ _ _ (by omega:(xr cc a).sum<cc.sum) ⟨xr cc a,ys,A,cp,rfl,rfl,d3,hS5,hoy.grown hg5 hnrA,fun k hk=>h32 k (mem_append_left _ hk),hO' hg5,by omega⟩
 all_goals
  refine zd (bne_eq_false_iff_eq.2 (by omega)) ?_;refine zb (vk hS ha) ?_;rintro _ w5 ⟨y,rfl,hok,he5⟩;refine⟨(pgT (Spa.get { S with now:=cc } a).1 y,(Spa.get { S with now:=cc } a).2,()),rfl,?_⟩
 ·have eg:Spa.get { S with now:=cc } a=(xb,2):=if_pos d2;rw[eg]at hok ⊢;refine yz (vs:=pgV xb y) (by rfl) (jB _ _) (fun r6 w6 hb6 he6 hr6=>?_) (by rfl);refine zf (by rfl) ?_;subst d3 d4;exact⟨rfl,(hS.ext he5).ext he6,Only.trans (Only.trans hO (Only.zG (F:=F) he5) (fun j hj=>.inl hj)) (Only.zG (F:=F) he6) (fun j hj=>.inl hj)⟩
 ·have eg:Spa.get { S with now:=cc } a=S.page a:=by
   unfold Spa.get;rw[if_neg (by rw[show Spa.asked { S with now:=cc } a=S.asked a from rfl,d2];simp),if_neg (by dsimp only;omega)];rfl
  rw[eg]at hok ⊢;refine yz (vs:=pgV (S.page a).1 y) (by rfl) (jB _ _) (fun r6 w6 hb6 he6 hr6=>?_) (by rfl);refine zf (bne_iff_ne.2 (by dsimp only;rw[d3];exact d4)) ?_;subst d5;refine⟨by rw[<- d3],(hS.ext he5).ext he6,Only.trans (Only.trans hO (Only.zG (F:=F) he5) (fun j hj=>.inl hj)) (Only.zG (F:=F) he6) (fun j hj=>.inl hj)⟩
 ·have eg:Spa.get { S with now:=cc } a=S.page a:=by
   unfold Spa.get;rw[if_neg (by rw[show Spa.asked { S with now:=cc } a=S.asked a from rfl,d2];simp),if_neg (by dsimp only;omega)];rfl
  rw[eg]at hok ⊢;refine yz (vs:=pgV (S.page a).1 y) (by rfl) (jB _ _) (fun r6 w6 hb6 he6 hr6=>?_) (by rfl);dsimp only;rw[d3];refine zd (by rfl) ?_;have he56:=he5.trans he6;have hS6:=hS.ext he56;have hok6:=hok.ext he6;have hoy6:=hoy.ext he56;have o6:Only F w w6:=Only.trans hO (Only.zG (F:=F) he56) (fun j hj=>.inl hj);obtain⟨t,hbx⟩:=hS6.box;refine zr (qh (l:=.ptr) 8 (some ⟨nb,0,none⟩) hbx (by rfl) (by rfl) ?_);refine zb (zdf hS6 ha) ?_;rintro _ w7 ⟨rfl,hS7,hg7⟩;have datE:atE cc a=0:=by
   obtain⟨a1,a2,a3⟩:=kW.1 d2;have hl:=hS.ok.now;have hl':cc.length=S.N:=hl;unfold atE;rw[if_neg (by omega),if_neg (by omega)]
  refine⟨((zbL cc a:Int),atE cc a,()),rfl,?_⟩;dsimp only;rw[datE];refine zd (by rfl) ?_;have h3lt:nr<w3.heap.size:=Nat.lt_of_lt_of_le hnrlt hO.2.2.2.1;have hb7:=hb6.grown hg7 (by simp;have:=he5.size;omega);have hkrow:∀ j,orow y.1=some j->w3.heap.size<=j:=fun j hj=>hok.row j hj;have hok7:=hok6.grown hg7 (fun j hj e=>by injection hj with hj;subst hj;have:=hkrow _ e;omega);have hoy7:=hoy6.grown hg7 hnrA;have o7:Only F w w7:=Only.trans o6 (h.zhx hg7) (fun j hj=>.inl hj);refine zm (l:=.slc) 1 y hb7 (by rfl) ?_;have hkl:=(zbQ (N:=S.N) (bs:=B (S.dev.read a).1));have hkl1:(S.page a).1.2.1.length<=1024:=hkl.1;have hyn:=hok7.len;refine zb (zll hok7 (by omega)) ?_;rintro _ w8 ⟨rfl,hok8,hg8⟩;refine⟨(),rfl,?_⟩;have hyr6:∀ j,orow y.1=some j->j≠r6:=fun j hj e=>by have:=hok.ye j hj;omega
  have hb8:=hb7.grown hg8 (fun e=>hyr6 r6 e.symm rfl);have hAlt:∀ j,orow A=some j->j<w3.heap.size:=fun j hj=>hoy.ye j hj;have hoy8:=hoy7.grown hg8 (fun j hj e=>by have:=hkrow j hj;have:=hAlt j e;omega);have o8':Only (fun j=>orow y.1=some j) w7 w8:=Only.z7 hg8 (fun j hj=>.inl hj);have h37:w.heap.size<=w3.heap.size:=hO.2.2.2.1;have hS8:=hS7.only o8' (fun j hj e=>by have:=hkrow j e;have:=hFlt j hj;omega);have o8:Only F w w8:=Only.trans o7 o8' (fun j hj=>.inr (by have:=hkrow j hj;omega));refine zm (l:=.slc) 1 y hb8 (by rfl) ?_;have hrl:(S.page a).1.2.1.reverse.length=y.2.1:=by rw[List.length_reverse];exact hyn
  refine xu (E:=zv .u32) jT hoy8 (by have:=hb8.lt;have:=he5.size;omega) hok8.sl (by omega) (by omega) ?_;intro A' c'' w9 ho9 hg9 _;have hx9:∀ j,orow A=some j->¬F j:=fun j hj hf=>by have:=hr2F j hj;have:=hFlt j hf;omega
  have o9':Only (fun j=>orow A=some j) w8 w9:=Only.z7 hg9.grown (fun j hj=>.inl hj);have hS9:=hS8.only o9' (fun j hj e=>hx9 j e hj);have o9:Only F w w9:=Only.trans o8 o9' (fun j hj=>.inr (hr2F j hj));have hsum:=zhz datE;rw[show ys.length+y.2.1=(ys++(S.page a).1.2.1.reverse).length by rw[length_append,hrl]]at ho9 ⊢;refine hJ _ _ _ (by omega:(xr cc a).sum<cc.sum) ⟨xr cc a,ys++(S.page a).1.2.1.reverse,A',c'',rfl,rfl,?_,hS9,ho9,fun k hk=>?_,o9,?_⟩
  ·rw[List.reverse_append,List.reverse_reverse];exact d4
  ·rcases mem_append.1 hk with hk|hk
   ·exact h32 k (mem_append_left _ hk)
   ·have:=hkl.2 k (List.mem_reverse.1 hk);omega
  ·rw[length_append,hrl];omega
end V
/- Contracts of counts.Load,and of the reference's New,Pages,Load. -/
namespace V
open Go Go.Proofs Go.RowKit
theorem zka {size:Int} {n:Nat} (h:yc size n=true):spages size n=((yt n (zN size):Nat):Int):=by
 unfold spages;rw[if_pos h,Int.toNat_natCast]
end V
/- Contracts of the package space:commit,Format. -/
namespace V
open Go Go.Proofs Go.RowKit Crc
def wrL (d:Dev):List (Nat×Fra)->Dev×Int
 |[]=>(d,0)
 |kf::r=>if (yp d kf.1 kf.2).2≠0 then yp d kf.1 kf.2 else wrL (yp d kf.1 kf.2).1 r
def xA (gen:Nat) (ps:List Nat) (l:List ByteArray):List (Nat×Fra):=(ps.zip l).map fun p=>(p.1,((2:UInt8),gen,p.2))
def yP (d:Dev) (c:List Nat) (s:Sup) (slot:Int):Dev×Int:=
 if (wrL d (xA s.gen s.pages (ya c (zN d.size)))).2≠0 then wrL d (xA s.gen s.pages (ya c (zN d.size)))
 else if (wrL d (xA s.gen s.pages (ya c (zN d.size)))).1.flush.2≠0 then (wrL d (xA s.gen s.pages (ya c (zN d.size)))).1.flush
 else if (xG s).2≠0 then ((wrL d (xA s.gen s.pages (ya c (zN d.size)))).1.flush.1,(xG s).2)
 else if ((wrL d (xA s.gen s.pages (ya c (zN d.size)))).1.flush.1.write slot (mkB (xG s).1)).2≠0 then (wrL d (xA s.gen s.pages (ya c (zN d.size)))).1.flush.1.write slot (mkB (xG s).1)
 else ((wrL d (xA s.gen s.pages (ya c (zN d.size)))).1.flush.1.write slot (mkB (xG s).1)).1.flush
theorem Step.pre {w w1 w2:World} {db:Nat} {Fd F1:Nat->Prop} {d:Dev} (hO:Only Fd w w1) (hF:∀ k,F1 k->Fd k\/w.heap.size<=k) (h:Step w1 db F1 d w2):Step w db Fd d w2:=by
 obtain⟨F2,g1,g2,g3⟩:=h;refine⟨F2,g1,fun k hk=>?_,Only.trans hO g3 hF⟩;rcases g2 k hk with e|e
 ·exact hF k e
 ·exact .inr (Nat.le_trans hO.2.2.2.1 e)
theorem jU (d:Dev) (k:Int) (s:ByteArray):(d.write k s).1.size=d.size/\(d.write k s).1.blocks=d.blocks/\(d.write k s).1.pen.length<=d.pen.length+1:=by
 unfold Dev.write;split
 ·exact⟨rfl,rfl,by simp⟩
 ·split
  ·exact⟨rfl,rfl,by simp⟩
  ·exact⟨rfl,rfl,by simp⟩
theorem uu (d:Dev) (k:Int) (f:Fra):(yp d k f).1.size=d.size/\(yp d k f).1.blocks=d.blocks/\(yp d k f).1.pen.length<=d.pen.length+1:=by
 unfold yp;split
 ·exact⟨rfl,rfl,by simp⟩
 ·exact jU _ _ _
theorem ua (d:Dev):d.flush.1.size=d.size/\d.flush.1.blocks=d.blocks/\d.flush.1.pen.length<=d.pen.length:=by
 unfold Dev.flush;split
 ·exact⟨rfl,rfl,Nat.le_refl _⟩
 ·exact⟨rfl,rfl,by simp⟩
theorem zdg:∀ (l:List (Nat×Fra)) (d:Dev),(wrL d l).1.size=d.size/\(wrL d l).1.blocks=d.blocks/\(wrL d l).1.pen.length<=d.pen.length+l.length
 |[],d=>⟨rfl,rfl,by simp[wrL]⟩
 |kf::r,d=>by
  obtain⟨h1,h2,h3⟩:=uu d kf.1 kf.2;unfold wrL;split
  ·exact⟨h1,h2,by simp only [length_cons];omega⟩
  ·obtain⟨g1,g2,g3⟩:=zdg r (yp d kf.1 kf.2).1;exact⟨g1.trans h1,g2.trans h2,by simp only [length_cons];omega⟩
theorem zch (l:List Nat) (per:Nat):(ya l per).length=yt l.length per:=by simp[ya]
theorem zhA {gen:Nat} {ps:List Nat} {l:List ByteArray} (h:ps.length=l.length) {i:Nat} (hi:i<l.length):(xA gen ps l)[i]?=some (ps.getD i 0,((2:UInt8),gen,l.getD i ByteArray.empty)):=by
 unfold xA;rw[List.getElem?_map,List.getElem?_zip_eq_some.2 (show ps[i]?=some (ps.getD i 0,l.getD i ByteArray.empty).1/\l[i]?=some (ps.getD i 0,l.getD i ByteArray.empty).2 from⟨?_,?_⟩)]
 ·rfl
 ·show ps[i]?=some (ps.getD i 0);rw[getD_eq_getElem?_getD,List.getElem?_eq_getElem (by omega)];rfl
 ·show l[i]?=some (l.getD i ByteArray.empty);rw[getD_eq_getElem?_getD,List.getElem?_eq_getElem (by omega)];rfl
theorem ziF {gen:Nat} {ps:List Nat} {l:List ByteArray} (h:ps.length=l.length):(xA gen ps l).length=l.length:=by
 unfold xA;rw[length_map,List.length_zip,h,Nat.min_self]
theorem zhB {w:World} {db:Nat} {d:Dev} {Fd:Nat->Prop} (h:xh w db d Fd) {cb cr:Nat} {q:List Value} {c:List Nat} (hc:Cnt w cb cr d.size q c) {s:Sup} {x:SLC} (hf:s.Fits) (hp:Pg w x s.pages)
  (hx:∀ a,x.1=some a->¬Fd a.block) (hlen:s.pages.length=yt c.length (zN d.size)) (hpen:d.pen.length<=900000) (slot:Int):
  Calls prog 95 #[.pointer (some ⟨db,0,none⟩),.pointer (some ⟨cb,0,none⟩),.agg (sV s x).toArray,.int .i64 slot] w (Ret fun v w'=>v=.int .i64 (yP d c s slot).2/\Step w db Fd (yP d c s slot).1 w'):=by
 have hgeo:=h.ok.geo;obtain⟨h8,_⟩:=zd9 hgeo;obtain⟨hper1,hper2,_⟩:=ka h8;have hcl:=hc.len;have hFlt:=h.lt;have hPl:=zch c (zN d.size);have hnp:yt c.length (zN d.size)<=4096:=by
  unfold yt;rw[Nat.div_le_iff_le_mul_add_pred (by omega)];have:4096*56<=4096*zN d.size:=Nat.mul_le_mul_left _ hper1;have:zN d.size*4096=4096*zN d.size:=Nat.mul_comm _ _;omega
 apply zpz;unfold S95 yP;refine zq fun r1 w1 hb1 he1 hr1 hz1=>?_;have hb1:Blk w1 r1 (sV s x) 79:=hb1;refine zb (ziw (hc.ext he1) h8) ?_;rintro _ w2 ⟨y,rfl,ho2,he2⟩;refine⟨y,rfl,?_⟩;have hb1:=hb1.ext he2;have he:=he1.trans he2;have hr1lt:=hb1.lt;have hyl:=ho2.len;have hpl:=hp.len;have hp2:=hp.ext he;generalize hL:xA s.gen s.pages (ya c (zN d.size))=L at *;have hLl:L.length=y.2.1:=by rw[<- hL,ziF (by omega)];exact hyl
 have hy1:∀ j,orow y.1=some j->w1.heap.size<=j/\j<w2.heap.size:=fun j hj=>⟨ho2.row j hj,ho2.ye j hj⟩;refine zw (fun y' w'=>∃ (i:Nat) (di:Dev) (Fi:Nat->Prop),i<=y.2.1/\y'=((i:Int),())/\xh w' db di Fi/\(∀ k,Fi k->Fd k\/w2.heap.size<=k)/\Only Fd w2 w'/\wrL d L=wrL di (L.drop i)/\di.size=d.size/\di.pen.length<=d.pen.length+i) (fun y'=>(y.2.1-y'.1).toNat)
  ⟨0,d,Fd,by omega,rfl,h.ext he,fun k hk=>.inl hk,Only.refl _ _,rfl,rfl,by omega⟩ ?_
 rintro _ w3 ⟨i,di,Fi,hi,rfl,hDi,hFi,hOi,hwr,hdz,hdp⟩;dsimp only;have hnFi:∀ j,w.heap.size<=j->j<w2.heap.size->¬Fi j:=fun j h1 h2 hf'=>by
  rcases hFi j hf' with e|e
  ·have:=hFlt j e;omega
  ·omega
 have hnFd:∀ j,w.heap.size<=j->¬Fd j:=fun j h1 hf'=>by have:=hFlt j hf';omega
 have hb3:=hb1.only hOi (hnFd r1 (by omega));have hz:=he1.size;have ho3:=ho2.only hOi (fun j hj=>hnFd j (by have:=hy1 j hj;omega));have hp3:Pg w3 x s.pages:=⟨hp2.sl.only hOi hx,hp2.nc⟩;have oi:Only Fd w w3:=Only.trans (Only.zG he) hOi (fun j hj=>.inl hj);have hFi':∀ k,Fi k->Fd k\/w.heap.size<=k:=fun k hk=>by
  rcases hFi k hk with e|e
  ·exact .inl e
  ·exact .inr (Nat.le_trans he.size e)
 by_cases hlt:i<y.2.1
 ·refine zf (decide_eq_true (by omega)) ?_;refine zi4 ho3.sl (by omega) (by omega) ?_;rw[Int.toNat_natCast];refine zK fun w4 he4 _ _=>?_;refine zm (l:=.slc) 4 x (hb3.ext he4) (by rfl) ?_;refine z6 (hp3.sl.ext he4) (by omega) (by omega) ?_;rw[Int.toNat_natCast];refine zF (s.gen:Int) (hb3.ext he4) (by rfl) ?_;have hpi:=hf.at_ i;refine zb (zcS (hDi.ext he4) (s.pages.getD i 0) hpi ((2:UInt8),s.gen,(ya c (zN d.size)).getD i ByteArray.empty) hf.gen (by omega)) ?_;rintro _ w5 ⟨rfl,hst⟩;refine⟨_,rfl,?_⟩;have eL:L.drop i=(s.pages.getD i 0,((2:UInt8),s.gen,(ya c (zN d.size)).getD i ByteArray.empty))::L.drop (i+1):=by
   have:=zhA (gen:=s.gen) (ps:=s.pages) (l:=ya c (zN d.size)) (by omega) (i:=i) (by omega);rw[hL]at this;obtain⟨h1,h2⟩:=List.getElem?_eq_some_iff.1 this;rw[drop_eq_getElem_cons h1,h2]
  rw[eL]at hwr;have hst':Step w3 db Fi _ w5:=Step.pre (Only.zG he4) (fun k hk=>.inl hk) hst;have hdim:=uu di (s.pages.getD i 0) ((2:UInt8),s.gen,(ya c (zN d.size)).getD i ByteArray.empty);refine zg (fun hq=>?_) (fun hq=>?_)
  ·have hq:=bne_iff_ne.1 hq;have e1:wrL d L=yp di (s.pages.getD i 0) ((2:UInt8),s.gen,(ya c (zN d.size)).getD i ByteArray.empty):=by
    rw[hwr,wrL,if_pos hq]
   rw[e1,if_pos hq];exact⟨rfl,Step.pre oi hFi' hst'⟩
  ·have hq:=bne_eq_false_iff_eq.1 hq;obtain⟨F5,g1,g2,g3⟩:=hst';refine⟨⟨i+1,_,F5,by omega,by rw[wrap_i64 (by omega) (by omega)];rfl,g1,fun k hk=>?_,Only.trans hOi g3 hFi,by rw[hwr,wrL,if_neg (fun hh=>hh hq)],hdim.1.trans hdz,by omega⟩,by rw[wrap_i64 (by omega) (by omega)];omega⟩;rcases g2 k hk with e|e
   ·exact hFi k e
   ·exact .inr (Nat.le_trans hOi.2.2.2.1 e)
 obtain rfl:i=y.2.1:=by omega
 refine zd (decide_eq_false (by omega)) ?_;rw[drop_of_length_le (by omega),wrL]at hwr;rw[hwr,if_neg (fun hh=>hh rfl)];dsimp only;refine zb (zdA hDi) ?_;rintro _ w4 ⟨rfl,hst⟩;refine⟨_,rfl,?_⟩;refine zg (fun hq=>?_) (fun hq=>?_)
 ·have hq:=bne_iff_ne.1 hq;rw[if_pos hq];exact⟨rfl,Step.pre oi hFi' hst⟩
 have hq:=bne_eq_false_iff_eq.1 hq;rw[if_neg (fun hh=>hh hq)];obtain⟨F4,g1,g2,g3⟩:=hst;have hF4:∀ k,F4 k->Fd k\/w2.heap.size<=k:=fun k hk=>by
  rcases g2 k hk with e|e
  ·exact hFi k e
  ·exact .inr (Nat.le_trans hOi.2.2.2.1 e)
 have hF4':∀ k,F4 k->Fd k\/w.heap.size<=k:=fun k hk=>by
  rcases hF4 k hk with e|e
  ·exact .inl e
  ·exact .inr (Nat.le_trans he.size e)
 have o4:Only Fd w w4:=Only.trans oi g3 hFi';have o24:Only Fd w2 w4:=Only.trans hOi g3 hFi;have hb4:=hb1.only o24 (hnFd r1 (by omega));have hp4:Pg w4 x s.pages:=⟨hp2.sl.only o24 hx,hp2.nc⟩;have hfd:=ua di;refine zZ (ls:=sLs) (sT s x) hb4 rfl ?_;refine zb (zjZ hf hp4) ?_;rintro _ w5 ⟨rfl,he5⟩;refine⟨(⟨(xG s).1.toArray⟩,(xG s).2,()),rfl,?_⟩;have o5:Only Fd w w5:=Only.trans o4 (Only.zG (F:=Fd) he5) (fun j hj=>.inl hj);refine zg (fun hq=>?_) (fun hq=>?_)
 ·have hq:=bne_iff_ne.1 hq;rw[if_pos hq];exact⟨rfl,Step.pre o5 hF4' ⟨F4,g1.ext he5,fun k hk=>.inl hk,Only.refl _ _⟩⟩
 have hq:=bne_eq_false_iff_eq.1 hq;rw[if_neg (fun hh=>hh hq)];refine zb (zaG (g1.ext he5) slot (mkB (xG s).1) (by omega)) ?_;rintro _ w6 ⟨rfl,hst⟩;refine⟨_,rfl,?_⟩;refine zg (fun hq=>?_) (fun hq=>?_)
 ·have hq:=bne_iff_ne.1 hq;rw[if_pos hq];exact⟨rfl,Step.pre o5 hF4' hst⟩
 have hq:=bne_eq_false_iff_eq.1 hq;rw[if_neg (fun hh=>hh hq)];obtain⟨F6,k1,k2,k3⟩:=hst;have hF6':∀ k,F6 k->Fd k\/w.heap.size<=k:=fun k hk=>by
  rcases k2 k hk with e|e
  ·exact hF4' k e
  ·exact .inr (Nat.le_trans o5.2.2.2.1 e)
 refine zb (zdA k1) ?_;rintro _ w7 ⟨rfl,hst⟩;exact⟨_,rfl,rfl,Step.pre (Only.trans o5 k3 hF4') hF6' hst⟩
end V
/- Contracts of the package space:Format. -/
namespace V
open Go Go.Proofs Go.RowKit Crc
def zJ (size:Int) (N:Nat):Nat:=yt N (zN size)
def xH (np:Nat):List Nat:=(List.range np).map (·+2)
def yl (N np:Nat):List Nat:=List.replicate (2+np) 1++List.replicate (N-2-np) 0
def xe (size:Int) (N:Nat):Sup:=⟨1,size,(N:Int),0,xH (zJ size N)⟩
def yG (d:Dev):Dev×Int:=
 if chk (xe d.size d.blocks.toNat)≠0 then (d,chk (xe d.size d.blocks.toNat))
 else if (d.write 1 (yI d.size.toNat)).2≠0 then d.write 1 (yI d.size.toNat)
 else yP (d.write 1 (yI d.size.toNat)).1 (yl d.blocks.toNat (zJ d.size d.blocks.toNat)) (xe d.size d.blocks.toNat) 0
def qu (d:Dev):Spa:=⟨(yG d).1,xe d.size d.blocks.toNat,0,yl d.blocks.toNat (zJ d.size d.blocks.toNat),yl d.blocks.toNat (zJ d.size d.blocks.toNat),none⟩
theorem zbg {size:Int} {N:Nat} (h:yc size N=true):zJ size N+2<=N/\N<=4096/\1<=zJ size N:=by
 obtain⟨h8,n,hn,h1,h2⟩:=zd9 h;obtain rfl:N=n:=by omega
 obtain⟨hp1,hp2,_⟩:=ka h8;have hx:yt N (zN size)<=(N+55) / 56:=by
  unfold yt;rw[Nat.div_le_iff_le_mul_add_pred (by omega)];have h3:N+55<56*((N+55) / 56+1):=Nat.lt_mul_div_succ _ (by omega);have h4:56*((N+55) / 56)<=zN size*((N+55) / 56):=Nat.mul_le_mul_right _ hp1;omega
 have h0:0<yt N (zN size):=by
  have:=(uT (n:=N) (k:=zN size) (i:=0) (by omega)).2 (by omega);exact this
 unfold zJ;omega
theorem qV {N np:Nat} (h:np+2<=N):(yl N np).length=N:=by simp[yl];omega
theorem kN {N np k:Nat} (h:np+2<=N):(yl N np).getD k 0=if k<np+2 then 1 else 0:=by
 unfold yl;rw[getD_eq_getElem?_getD]
 by_cases hk:k<np+2
 ·rw[if_pos hk,List.getElem?_append_left (by simp;omega),List.getElem?_replicate,if_pos (by omega)];rfl
 ·rw[if_neg hk,List.getElem?_append_right (by simp;omega),List.getElem?_replicate];split<;>rfl
theorem zlm {N:Nat} (h:2<=N):yl N 0=zcO N:=by
 unfold yl zcO;rfl
theorem zln {N i:Nat} (h:i+3<=N):takeN (yl N i) []=i+2/\yU (yl N i) []=0/\yV (yl N i) []=yl N (i+1):=by
 have hl:=qV (N:=N) (np:=i) (by omega);have ht:zH (yl N i) []=i+2:=by
  unfold zH;rw[hl];refine zeS (by omega) (ke.2 ⟨?_,by simp⟩) (fun j hj=>?_)
  ·rw[kN (by omega),if_neg (by omega)]
  ·cases hq:qL (yl N i) [] j with
   |false=>rfl
   |true=>
    have:=(ke.1 hq).1;rw[kN (by omega),if_pos (by omega)]at this;cases this
 refine⟨?_,?_,?_⟩
 ·unfold takeN;rw[ht,if_pos (by omega)]
 ·unfold yU;rw[ht,if_pos (by omega)]
 ·unfold yV;rw[ht,if_pos (by omega)];refine qE (by rw[length_set,hl,qV (by omega)]) (fun k=>?_);rw[ym,kN (by omega),kN (by omega),hl]
  by_cases hk:i+2=k
  ·subst hk;rw[if_pos ⟨rfl,by omega⟩,if_pos (by omega)]
  ·rw[if_neg (fun e=>hk e.1)]
   by_cases hk2:k<i+2
   ·rw[if_pos hk2,if_pos (by omega)]
   ·rw[if_neg hk2,if_neg (by omega)]
theorem zlo (i:Nat):xH (i+1)=xH i++[i+2]:=by simp[xH,range_succ]
theorem kA (i:Nat):(xH i).length=i:=by simp[xH]
theorem zcU {size:Int} {N:Nat} (h:yc size N=true):(xe size N).Fits:=by
 have hd:=zbJ h;have:=zbg h;refine⟨by show 1<_;omega,by show _<=size/\size<_;omega,by show _<=(N:Int)/\(N:Int)<_;omega,by show 0<_;omega,fun p hp=>?_⟩;have hp:p∈xH (zJ size N):=hp;unfold xH at hp;obtain⟨i,hi,rfl⟩:=mem_map.1 hp;have:=mem_range.1 hi;omega
theorem zaN (d:Dev) (c:List Nat) (s:Sup) (slot:Int):(yP d c s slot).1.size=d.size/\(yP d c s slot).1.blocks=d.blocks:=by
 have h1:=zdg (xA s.gen s.pages (ya c (zN d.size))) d;have h2:=ua (wrL d (xA s.gen s.pages (ya c (zN d.size)))).1;have h3:=jU (wrL d (xA s.gen s.pages (ya c (zN d.size)))).1.flush.1 slot (mkB (xG s).1);have h4:=ua ((wrL d (xA s.gen s.pages (ya c (zN d.size)))).1.flush.1.write slot (mkB (xG s).1)).1;unfold yP;split
 ·exact⟨h1.1,h1.2.1⟩
 split
 ·exact⟨h2.1.trans h1.1,h2.2.1.trans h1.2.1⟩
 split
 ·exact⟨h2.1.trans h1.1,h2.2.1.trans h1.2.1⟩
 split
 ·exact⟨h3.1.trans (h2.1.trans h1.1),h3.2.1.trans (h2.2.1.trans h1.2.1)⟩
 ·exact⟨h4.1.trans (h3.1.trans (h2.1.trans h1.1)),h4.2.1.trans (h3.2.1.trans (h2.2.1.trans h1.2.1))⟩
theorem zhC {w:World} {db:Nat} {d:Dev} {Fd:Nat->Prop} (h:xh w db d Fd) (hpen:d.pen.length<=800000):
  Calls prog 69 #[.pointer (some ⟨db,0,none⟩)] w (Ret fun v w'=>((yG d).2≠0/\v=.tuple #[.pointer none,.int .i64 (yG d).2]/\Step w db Fd (yG d).1 w')\/
   ((yG d).2=0/\∃ b F,v=.tuple #[.pointer (some ⟨b,0,none⟩),.int .i64 0]/\yb w' b db (qu d) F/\w.heap.size<=b/\(∀ k,F k->Fd k\/w.heap.size<=k)/\Only Fd w w')):=by
 have hgeo:=h.ok.geo;obtain⟨h8,N,hN,hN8,hNm⟩:=zd9 hgeo;have hNt:d.blocks.toNat=N:=by omega
 have hg':yc d.size (N:Int)=true:=by rw[<- hN];exact hgeo
 obtain⟨hnp1,hnp2,hnp3⟩:=zbg hg';have hdim:=zbJ hgeo;have hFlt:=h.lt;have hff:=zcU hg';apply zpb;unfold S69 yG;rw[hNt];refine zd (by rfl) ?_;refine zb (vY h) ?_;rintro _ w1 ⟨rfl,he1⟩;refine⟨(d.size,d.blocks,()),rfl,?_⟩;refine zb (zlf w1 d.size d.blocks) ?_;rintro _ w2 ⟨y,rfl,hc2,he2⟩;rw[if_pos hgeo]at hc2;obtain⟨cb,cr,rfl,hc2,hcb,hcr⟩:=hc2;refine⟨(some ⟨cb,0,none⟩,(if yc d.size d.blocks then 0 else 2),()),rfl,?_⟩;rw[if_pos hgeo];dsimp only;refine zd (by rfl) ?_;rw[hNt,<- zlm (by omega)]at hc2;have he:=he1.trans he2;refine zb (vY (h.ext he)) ?_;rintro _ w3 ⟨rfl,he3⟩;refine⟨(d.size,d.blocks,()),rfl,?_⟩;have he3':=he.trans he3;refine zqr (s:=⟨1,d.size,d.blocks,0,[]⟩) (x:=(none,0,0)) (by rfl) (fun r4 w4 hb4 he4 hr4=>?_);have he4':=he3'.trans he4;refine zb (vY (h.ext he4')) ?_;rintro _ w5 ⟨rfl,he5⟩;refine⟨(d.size,d.blocks,()),rfl,?_⟩;refine zb (zhv w5 d.size d.blocks) ?_;rintro _ w6 ⟨rfl,he6⟩;rw[hN,zka hg'];refine⟨_,rfl,?_⟩;have he46:=he5.trans he6;have he6':=he4'.trans he46;have hb6:=hb4.ext he46;have hc6:=((hc2.ext he3).ext he4).ext he46;have hr4lt:r4<w6.heap.size:=hb6.lt;have hcblt:cb<w3.heap.size:=(hc2.ext he3).head.lt;have hcrlt:cr<w3.heap.size:=(hc2.ext he3).row.lt;have hs1:=he1.size;have hs3:=he3.size;have hs2:=he2.size;rw[hN]at hb6;show zz _ _ _ w6;have hnpe:zJ d.size N=yt N (zN d.size):=rfl;rw[<- hnpe];refine zw (fun y w'=>∃ (i:Nat) (A:Option Addr) (c:Nat),i<=zJ d.size N/\y=((i:Int),())/\Ext w w'/\w6.heap.size<=w'.heap.size/\Cnt w' cb cr d.size [] (yl N i)/\Blk w' r4 (sV ⟨1,d.size,(N:Int),0,[]⟩ (A,i,c)) 79/\Owni (zv .u32) 41 w' w6.heap.size A i c (xH i)) (fun y=>(zJ d.size N-y.1).toNat)
  ⟨0,none,0,by omega,rfl,he6',Nat.le_refl _,hc6,hb6,Owni.nil _ _ _⟩ ?_
 rintro _ w7 ⟨i,A,c,hi,rfl,he7,hz7,hc7,hb7,ho7⟩;dsimp only
 by_cases hlt:i<zJ d.size N
 ·refine zf (decide_eq_true (by omega)) ?_;obtain⟨t1,t2,t3⟩:=zln (N:=N) (i:=i) (by omega);refine zb (zeQ hc7 (.inl ⟨rfl,rfl⟩)) ?_;rintro _ w8 ⟨rfl,hc8,hg8⟩;rw[t3]at hc8;refine⟨(((takeN (yl N i) []:Nat):Int),yU (yl N i) [],()),rfl,?_⟩;rw[t1,t2];refine zd (by rfl) ?_;have hb8:=hb7.grown hg8 (by simp;omega);have ho8:=ho7.grown hg8 (fun j hj e=>by injection hj with hj;subst hj;have:=ho7.row _ e;omega);refine zm (l:=.slc) 4 (A,i,c) hb8 (by rfl) ?_;dsimp only;have hle:=ho8.le;refine yW (E:=zv .u32) (ys:=[i+2]) (by rfl) rfl jT ho8 (by have:=hg8.size;omega) (by omega) (by omega) ?_;intro A' c' w9 ho9 hg9;have hx9:∀ j,orow A=some j->w6.heap.size<=j:=fun j hj=>ho8.row j hj;have hb9:=hb8.grown hg9.grown (fun e=>by have:=hx9 r4 e.symm;omega);have hc9:Cnt w9 cb cr d.size [] (yl N (i+1)):=⟨hc8.head.grown hg9.grown (fun e=>by have:=hx9 cb e.symm;have:=he4.size;have:=he46.size;omega),hc8.row.grown hg9.grown (fun e=>by have:=hx9 cr e.symm;have:=he4.size;have:=he46.size;omega),hc8.ne,hc8.len,hc8.fits⟩;have he9:Ext w w9:=(he7.grown hg8 (fun j hj=>by injection hj with hj;omega)).grown hg9.grown (fun j hj=>by have:=hx9 j hj;have:=he6'.size;omega);rw[zC];refine zQ hb9 (by show 0+4<5;omega) ?_;have hg10:=yH w9 r4 (0+4) (.slice A' (i+1) c');have hb10:=hb9.set (0+4) (.slice A' (i+1) c');refine⟨⟨i+1,A',c',by omega,by rw[wrap_i64 (by omega) (by omega)];rfl,he9.grown hg10 (fun j hj=>by injection hj with hj;omega),?_,hc9.kept hg10 (by omega) (by omega),hb10,?_⟩,by rw[wrap_i64 (by omega) (by omega)];omega⟩
  ·exact Nat.le_trans (Nat.le_trans (Nat.le_trans hz7 hg8.size) hg9.grown.size) hg10.size
  ·rw[zlo];exact ho9.grown hg10 (fun j hj e=>by injection hj with hj;have:=ho9.row _ e;omega)
 obtain rfl:i=zJ d.size N:=by omega
 refine zd (decide_eq_false (by omega)) ?_;have hb7:Blk w7 r4 (sV (xe d.size N) (A,zJ d.size N,c)) 79:=hb7;have hpg7:Pg w7 (A,zJ d.size N,c) (xe d.size N).pages:=⟨ho7.sl,ho7.le.1⟩;have stay:∀ {w':World},Ext w w'->Step w db Fd d w':=fun e=>⟨Fd,h.ext e,fun k hk=>.inl hk,Only.zG e⟩;refine zZ (ls:=sLs) (sT (xe d.size N) (A,zJ d.size N,c)) hb7 rfl ?_;refine zb (zdC hff hpg7) ?_;rintro _ w8 ⟨rfl,he8⟩;refine⟨_,rfl,?_⟩;have he8':=he7.trans he8;refine zg (fun hq=>?_) (fun hq=>?_)
 ·have hq:=bne_iff_ne.1 hq;rw[if_pos hq];exact .inl ⟨hq,rfl,stay he8'⟩
 have hq0:=bne_eq_false_iff_eq.1 hq;rw[if_neg (fun hh=>hh hq0)];refine zb (vY (h.ext he8')) ?_;rintro _ w9 ⟨rfl,he9⟩;refine⟨(d.size,d.blocks,()),rfl,?_⟩;dsimp only;obtain⟨z,hz⟩:∃ z:Nat,d.size=(z:Int):=⟨d.size.toNat,by omega⟩;rw[hz];refine vG (kl:=.i64) (kc:=.i64) (B:=w9.heap.size) (z:=.int .u8 0) (bytes:=1) qC (by rfl) (Nat.le_refl _) (by omega) (by omega) ?_;intro w10 ho10 hg10;have he10:Ext w9 w10:=(Ext.refl w9).grown hg10 (fun j hj=>by cases hj);have hrep:(List.replicate z (Value.int .u8 0))=bV (List.replicate z 0):=by simp[bV]
 rw[hrep]at ho10;refine qS (e:=5) (by kernel_rfl) (by kernel_rfl) (by kernel_rfl) ho10.sl ?_;have hzb:(⟨(List.replicate z (0:UInt8)).toArray⟩:ByteArray)=yI d.size.toNat:=by rw[hz];rfl
 rw[hzb];have he810:=he9.trans he10;have he10':=he8'.trans he810;refine zb (zaG (h.ext he10') 1 (yI d.size.toNat) (by omega)) ?_;rintro _ w11 ⟨rfl,hst⟩;refine⟨_,rfl,?_⟩;rw[<- hz];refine zg (fun hq=>?_) (fun hq=>?_)
 ·have hq:=bne_iff_ne.1 hq;rw[if_pos hq];exact .inl ⟨hq,rfl,Step.pre (Only.zG he10') (fun k hk=>.inl hk) hst⟩
 have hq1:=bne_eq_false_iff_eq.1 hq;rw[if_neg (fun hh=>hh hq1)];obtain⟨F11,k1,k2,k3⟩:=hst;have hwd:=jU d 1 (yI d.size.toNat);have hFd:∀ j,w.heap.size<=j->¬Fd j:=fun j hj hf=>by have:=hFlt j hf;omega
 have he78:Ext w7 w10:=he8.trans he810;have he4s:=he4.size;have he46s:=he46.size;have hw6:=he6'.size;have hb11:=(hb7.ext he78).only k3 (hFd r4 (by omega));have hc11:=(hc7.ext he78).only k3 (hFd cb (by omega)) (hFd cr (by omega));have hArow:∀ a,A=some a->w6.heap.size<=a.block:=fun a ha=>ho7.row _ (by rw[ha];rfl);have hArow2:∀ a,A=some a->a.block<w7.heap.size:=fun a ha=>ho7.ye _ (by rw[ha];rfl);have hp11:Pg w11 (A,zJ d.size N,c) (xe d.size N).pages:=⟨(hpg7.sl.ext he78).only k3 (fun a ha=>hFd _ (by have:=hArow a ha;omega)),hpg7.nc⟩;have h710:w7.heap.size<=w10.heap.size:=he78.size;have o11:Only Fd w w11:=Only.trans (Only.zG he10') k3 (fun j hj=>.inl hj);have hF11w:∀ k,F11 k->Fd k\/w.heap.size<=k:=fun k hk=>by
  rcases k2 k hk with e|e
  ·exact .inl e
  ·exact .inr (Nat.le_trans he10'.size e)
 have hF11:∀ j,w.heap.size<=j->j<w10.heap.size->¬F11 j:=fun j h1 h2 hf=>by
  rcases k2 j hf with e|e
  ·exact hFd j h1 e
  ·omega
 refine zZ (ls:=sLs) (sT (xe d.size N) (A,zJ d.size N,c)) hb11 rfl ?_;have hfl:=qV (N:=N) (np:=zJ d.size N) hnp1;refine zb (zhB k1 (c:=yl N (zJ d.size N)) (by rw[hwd.1];exact hc11) hff hp11 (fun a ha=>hF11 _ (by have:=hArow a ha;omega) (by have:=hArow2 a ha;omega)) (by rw[hwd.1,hfl];exact kA _) (by omega) 0) ?_;rintro _ w12 ⟨rfl,hst⟩;refine⟨_,rfl,?_⟩;refine zg (fun hq=>?_) (fun hq=>?_)
 ·have hq:=bne_iff_ne.1 hq;exact .inl ⟨hq,rfl,Step.pre o11 hF11w hst⟩
 have hq2:=bne_eq_false_iff_eq.1 hq;obtain⟨F12,m1,m2,m3⟩:=hst;have hF12:∀ j,w.heap.size<=j->j<w10.heap.size->¬F12 j:=fun j h1 h2 hf=>by
  rcases m2 j hf with e|e
  ·exact hF11 j h1 h2 e
  ·have:=k3.2.2.2.1;omega
 have hF12w:∀ k,F12 k->Fd k\/w.heap.size<=k:=fun k hk=>by
  rcases m2 k hk with e|e
  ·exact hF11w k e
  ·exact .inr (Nat.le_trans o11.2.2.2.1 e)
 have h4r:r4<w10.heap.size:=by omega
 have hb12:=hb11.only m3 (hF11 r4 (by omega) (by omega));have hc12:=hc11.only m3 (hF11 cb (by omega) (by omega)) (hF11 cr (by omega) (by omega));have hp12:Pg w12 (A,zJ d.size N,c) (xe d.size N).pages:=⟨hp11.sl.only m3 (fun a ha=>hF11 _ (by have:=hArow a ha;omega) (by have:=hArow2 a ha;omega)),hp11.nc⟩;have o12:Only Fd w w12:=Only.trans o11 m3 hF11w;refine zK fun w13 he13 hs13 _=>?_;refine zZ (ls:=sLs) (sT (xe d.size N) (A,zJ d.size N,c)) (hb12.ext he13) rfl ?_;refine zb (zfx (hc12.ext he13)) ?_;rintro _ w14 ⟨⟨b2,r2,q2,rfl,hc14,hb2,hr2⟩,he14⟩;refine⟨some ⟨b2,0,none⟩,rfl,?_⟩;have he1314:=he13.trans he14;have hb14:=hb12.ext he1314;refine⟨fun l hl p hp=>?_,?_⟩
 ·simp only [mem_singleton]at hl;subst hl;simp only [mem_cons,not_mem_nil,or_false]at hp;rcases hp with rfl|rfl|rfl|rfl|rfl
  ·exact(hb14.cell 0).trans rfl
  ·exact(hb14.cell 1).trans rfl
  ·exact(hb14.cell 2).trans rfl
  ·exact(hb14.cell 3).trans rfl
  ·exact(hb14.cell 4).trans rfl
 refine zq fun r23 w15 hb15 he15 hr15 hz15=>?_;have hx15:=he1314.trans he15;have o15:Only Fd w w15:=Only.trans o12 (Only.zG (F:=Fd) hx15) (fun j hj=>.inl hj);have hcD:=hc14.head.lt;have hcD2:=hc14.row.lt;have hm1lt:=m1.lt;have h1012:w10.heap.size<=w12.heap.size:=Nat.le_trans k3.2.2.2.1 m3.2.2.2.1;have hs14:=he14.size;have hne:=hc2.ne;have hne2:=hc14.ne;have es:(yP (d.write 1 (yI d.size.toNat)).1 (yl N (zJ d.size N)) (xe d.size N) 0).1.size=d.size/\(yP (d.write 1 (yI d.size.toNat)).1 (yl N (zJ d.size N)) (xe d.size N) 0).1.blocks=d.blocks:=by
  have:=zaN (d.write 1 (yI d.size.toNat)).1 (yl N (zJ d.size N)) (xe d.size N) 0;exact⟨this.1.trans hwd.1,this.2.trans hwd.2.1⟩
 have eF:qu d=⟨(yP (d.write 1 (yI d.size.toNat)).1 (yl N (zJ d.size N)) (xe d.size N) 0).1,xe d.size N,0,yl N (zJ d.size N),yl N (zJ d.size N),none⟩:=by
  unfold qu yG;rw[hNt,if_neg (fun hh=>hh hq0),if_neg (fun hh=>hh hq1)]
 refine .inr ⟨hq2,r23,fun k=>F12 k\/k∈yR r23 cb cr b2 r2 (A,zJ d.size N,c) none,rfl,?_,by omega,?_,o15⟩
 ·rw[eF];have hA2:∀ k,k∈zaH (A,zJ d.size N,c)->w6.heap.size<=k/\k<w7.heap.size:=by
   intro k hk;unfold zaH at hk;cases A with
   |none=>simp at hk
   |some a=>
    simp only [Option.map_some,Option.toList_some,mem_singleton]at hk;subst hk;exact⟨hArow a rfl,hArow2 a rfl⟩
  have hrn:(zaH (A,zJ d.size N,c)).Nodup:=by
   unfold zaH;cases A<;>simp
  refine⟨F12,(A,zJ d.size N,c),cb,cr,b2,r2,none,⟨⟨_,by exact hb15⟩,m1.ext hx15,hp12.ext hx15,⟨[],hc12.ext hx15⟩,⟨q2,hc14.ext he15⟩,trivial,fun _=>Iff.rfl,?_,?_,?_,⟨es.1.symm,?_,hff,?_,?_,fun l hl=>by cases hl⟩⟩⟩
  ·simp only [yR,zcP,append_nil,nodup_cons,mem_cons,not_or];refine⟨⟨by omega,by omega,by omega,by omega,fun hk=>by have:=hA2 _ hk;omega⟩,⟨hne,by omega,by omega,fun hk=>by have:=hA2 _ hk;omega⟩,⟨by omega,by omega,fun hk=>by have:=hA2 _ hk;omega⟩,⟨hne2,fun hk=>by have:=hA2 _ hk;omega⟩,fun hk=>by have:=hA2 _ hk;omega,hrn⟩
  ·intro k hk hf;have hkl:=hm1lt k hf;simp only [yR,zcP,append_nil,mem_cons]at hk;rcases hk with rfl|rfl|rfl|rfl|rfl|hk
   ·omega
   ·exact hF12 _ (by omega) (by omega) hf
   ·exact hF12 _ (by omega) (by omega) hf
   ·omega
   ·omega
   ·have:=hA2 k hk;exact hF12 _ (by omega) (by omega) hf
  ·intro k hk;have:=hA2 k hk;have:=hx15.size;omega
  ·show(N:Int)=_;rw[es.2,hN]
  ·show(yl N (zJ d.size N)).length=((N:Int)).toNat;rw[hfl];omega
  ·show(yl N (zJ d.size N)).length=((N:Int)).toNat;rw[hfl];omega
 ·rintro k (hk|hk)
  ·exact hF12w k hk
  ·right;simp only [yR,zcP,append_nil,mem_cons]at hk;rcases hk with rfl|rfl|rfl|rfl|rfl|hk
   ·omega
   ·omega
   ·omega
   ·omega
   ·omega
   ·unfold zaH at hk;cases A with
    |none=>simp at hk
    |some a=>
     simp only [Option.map_some,Option.toList_some,mem_singleton]at hk;subst hk;have:=hArow a rfl;omega
end V
/- Ranges over functions that make new blocks,and change their own,between what they yield. -/
namespace V
open Go
theorem Only.yE {F:Nat->Prop} {w:World} {a:Nat} {o:Obj} (h:F a):Only F w (yE w a o):=
 ⟨rfl,rfl,rfl,by rw[xE];exact Nat.le_refl _,fun k _ hk=>zR (fun e=>hk (by rw[<- e];exact h))⟩
theorem Only.mono {F G:Nat->Prop} {w w':World} (h:Only F w w') (hF:∀ k,F k->G k):Only G w w':=⟨h.1,h.2.1,h.2.2.1,h.2.2.2.1,fun k hk hg=>h.2.2.2.2 k hk (fun e=>hg (hF k e))⟩
def zgL (P:Program) (v:Value) (L:List (List Value)) (R:WP) (Q:Nat->Prop) (R0 E0:WP) (Bp:World->Nat->Prop):Prop:=
 ∃ f cap,v=.func (.func f) #[] cap/\enterable P f=true/\∀ (l:Nat) (J:(Nat->Prop)->Nat->WP) (E:(Nat->Prop)->WP) (w:World),J Q 0 w->(∀ k,Q k->k<w.heap.size)->R0 w->(∀ V i w',J V i w'->R w')->
  (∀ (V V':Nat->Prop) i w' w'',J V i w'->Only V w' w''->(∀ k,V' k->V k\/w'.heap.size<=k)->R w''->J V' i w'')->(∀ (V V':Nat->Prop) w' w'',E V w'->Only V w' w''->(∀ k,V' k->V k\/w'.heap.size<=k)->E V' w'')->
  (∀ (V:Nat->Prop) i w' (h:i<L.length),J V i w'->(∀ k,V k->k<w'.heap.size)->(∀ k,V k->Bp w' k)->ja P l L[i] w' fun v w''=>w'.heap.size<=w''.heap.size/\(∀ k,V k->w''.heap[k]?=w'.heap[k]?)/\
   ((v=.bool true/\R w''/\J V (i+1) w'')\/(v=.bool false/\E V w'')))->
  Calls P f (.func (.yield l) #[] #[]::cap.toList).toArray w (Ret fun _ w'=>∃ V:Nat->Prop,(J V L.length w'/\(∀ k,V k->Q k\/w.heap.size<=k)/\E0 w')\/E V w')
def zq0 (w:World) (k:Nat):Prop:=∀ o,w.heap[k]?=some o->∀ c t fz,o≠.cells c t fz
theorem zef {P:Program} {v:Value} {T:Type} {vals:T->List Value} {Body:T->(WP->WP)->WP->(Code->WP)->WP} {done:Nat->Option Code->WP} {w:World} {L:List (List Value)} {R:WP} {Q:Nat->Prop} {R0 E0:WP} {Bp:World->Nat->Prop} (tv:Nat->T) (htv:∀ i (hi:i<L.length),vals (tv i)=L[i])
  (I:(Nat->Prop)->Nat->WP) (D:(Nat->Prop)->Code->WP)
  (hit:zgL P v L R Q R0 E0 Bp) (hQ:∀ k,Q k->k<w.heap.size)
  (hRst:∀ w' w'',yN w.heap.size (w.heap.size+1) w' w''->R w'->R w'')
  (hEst:∀ w' w'',yN w.heap.size (w.heap.size+1) w' w''->E0 w'->E0 w'')
  (hR:∀ V i w',I V i w'->R w')
  (hI:∀ (V V':Nat->Prop) i w' w'',I V i w'->Only (fun k=>V k\/k=w.heap.size\/k=w.heap.size+1) w' w''->(∀ k,V' k->V k\/w'.heap.size<=k)->R w''->I V' i w'')
  (hD:∀ (V V':Nat->Prop) c w' w'',D V c w'->Only (fun k=>V k\/k=w.heap.size\/k=w.heap.size+1) w' w''->(∀ k,V' k->V k\/w'.heap.size<=k)->D V' c w'')
  (h0:∀ o,I Q 0 ((w.alloc (.deferred (some []))).alloc o)) (h00:∀ o,R0 ((w.alloc (.deferred (some []))).alloc o))
  (hbody:∀ (V:Nat->Prop) (i:Nat) (hi:i<L.length) (w':World) (G:WP->WP) (N:WP) (jump:Code->WP),I V i w'->w.heap.size+2<=w'.heap.size->(∀ k,V k->k<w'.heap.size/\k≠w.heap.size/\k≠w.heap.size+1)->(∀ k,V k->Bp w' k)->
   (∀ (K:WP) w1,I V i w1->w'.heap.size<=w1.heap.size->(∀ k,k=w.heap.size\/k=w.heap.size+1\/V k->w1.heap[k]?=w'.heap[k]?)->(∀ w2,I V i w2->w1.heap.size=w2.heap.size->(∀ k:Nat,k≠w.heap.size->k≠w.heap.size+1->w2.heap[k]?=w1.heap[k]?)->(∀ k,k=w.heap.size\/k=w.heap.size+1->zq0 w2 k)->
    (∀ w'',R w''->I V (i+1) w''->w2.heap.size<=w''.heap.size->(∀ k,k=w.heap.size\/k=w.heap.size+1\/V k->w''.heap[k]?=w2.heap[k]?)->N w'')->
    (∀ c w'',D V c w''->w2.heap.size<=w''.heap.size->(∀ k,k=w.heap.size\/k=w.heap.size+1\/V k->w''.heap[k]?=w2.heap[k]?)->jump c w'')->K w2)->G K w1)->
   Body (tv i) G N jump w')
  (hdone:∀ V w',I V L.length w'->E0 w'->w.heap.size+2<=w'.heap.size->w'.heap[w.heap.size]?=some (.deferred (some []))->done w.heap.size none w')
  (hjump:∀ V c w',D V c w'->w.heap.size+2<=w'.heap.size->w'.heap[w.heap.size]?=some (.deferred (some []))->done w.heap.size (some c) w'):
  jc P v T vals Body done w:=by
 obtain⟨f,cap,rfl,hen,hcalls⟩:=hit;refine⟨f,cap,rfl,hen,fun rec hrec hY=>?_⟩;have hlt:∀ {w':World} {o:Obj},w'.heap[w.heap.size+1]?=some o->w.heap.size+1<w'.heap.size:=fun h=>(Array.getElem?_eq_some_iff.1 h).1;have hs0:((w.alloc (.deferred (some []))).alloc (rec .ready none)).heap.size=w.heap.size+2:=by
  show((w.heap.push _).push _).size=_;simp
 have hIs:∀ {V:Nat->Prop} {i:Nat} {w':World} {o:Obj},I V i w'->I V i (yE w' (w.heap.size+1) o):=fun h=>hI _ _ _ _ _ h (Only.yE (.inr (.inr rfl))) (fun k hk=>.inl hk) (hRst _ _ (z8 (.inr rfl)) (hR _ _ _ h));refine Calls.mono (hcalls (w.heap.size+1) (fun V i w'=>I V i w'/\w'.heap[w.heap.size+1]?=some (rec .ready none)/\w'.heap[w.heap.size]?=some (.deferred (some []))/\∀ k,V k->k≠w.heap.size/\k≠w.heap.size+1)
  (fun V w'=>∃ c,D V c w'/\w'.heap[w.heap.size+1]?=some (rec .done (some c))/\w'.heap[w.heap.size]?=some (.deferred (some []))/\∀ k,V k->k≠w.heap.size/\k≠w.heap.size+1) _ ⟨h0 _,?_,?_,fun k hk=>by have:=hQ k hk;omega⟩ (fun k hk=>by have:=hQ k hk;omega) (h00 _) (fun V i w' h=>hR V i w' h.1) ?_ ?_ ?_) ?_
 ·show((w.heap.push _).push _)[w.heap.size+1]?=_;rw[Array.getElem?_push];simp
 ·show((w.heap.push _).push _)[w.heap.size]?=_;rw[Array.getElem?_push,Array.getElem?_push];simp
 ·rintro V V' i w' w'' ⟨h1,h2,h3,h4⟩ hO hV hr;have:=hlt h2;exact⟨hI V V' i w' w'' h1 (hO.mono (fun k hk=>.inl hk)) hV hr,(hO.2.2.2.2 _ (by omega) (fun e=>(h4 _ e).2 rfl)).trans h2,(hO.2.2.2.2 _ (by omega) (fun e=>(h4 _ e).1 rfl)).trans h3,fun k hk=>by rcases hV k hk with e|e;exact h4 k e;omega⟩
 ·rintro V V' w' w'' ⟨c,h1,h2,h3,h4⟩ hO hV;have:=hlt h2;exact⟨c,hD V V' c w' w'' h1 (hO.mono (fun k hk=>.inl hk)) hV,(hO.2.2.2.2 _ (by omega) (fun e=>(h4 _ e).2 rfl)).trans h2,(hO.2.2.2.2 _ (by omega) (fun e=>(h4 _ e).1 rfl)).trans h3,fun k hk=>by rcases hV k hk with e|e;exact h4 k e;omega⟩
 ·rintro V i w' hi ⟨hIi,hl,hd,hVa⟩ hVs hVb
  let Qv:Bool->WP:=fun b w''=>w'.heap.size<=w''.heap.size/\(∀ k,V k->w''.heap[k]?=w'.heap[k]?)/\
   ((b=true/\R w''/\I V (i+1) w''/\w''.heap[w.heap.size+1]?=some (rec .ready none)/\w''.heap[w.heap.size]?=some (.deferred (some [])))
   \/ (b=false/\∃ c,D V c w''/\w''.heap[w.heap.size+1]?=some (rec .done (some c))/\w''.heap[w.heap.size]?=some (.deferred (some []))))
  have hb:=hbody V i hi w' (fun K w1=>w1.heap[w.heap.size+1]?=some (rec .ready none)/\K (yE w1 (w.heap.size+1) (rec .busy none)))
   (fun w2=>w2.heap[w.heap.size+1]?=some (rec .busy none)/\Qv true (yE w2 (w.heap.size+1) (rec .ready none)))
   (fun c w2=>w2.heap[w.heap.size+1]?=some (rec .busy none)/\Qv false (yE w2 (w.heap.size+1) (rec .done (some c)))) hIi (by have:=hlt hl;omega)
   (fun k hk=>⟨hVs k hk,hVa k hk⟩) hVb
   (fun K w1 hI1 hs1 hk1 hG=>by
    have hl1:=hk1 (w.heap.size+1) (.inr (.inl rfl))
    rw[hl]at hl1
    have hd1:=hk1 w.heap.size (.inl rfl)
    rw[hd]at hd1
    refine⟨hl1,hG _ (hIs hI1) (by rw[xE]) (fun k h1 h2=>zR (fun e=>h2 e.symm)) (fun k hk o ho c t fz e=>?_) ?_ ?_⟩
    ·rcases hk with rfl|rfl
     ·rw[zR (by omega),hd1]at ho
      injection ho with ho
      rw[<- ho]at e
      cases e
     ·rw[xR (hlt hl1)]at ho
      injection ho with ho
      rw[<- ho]at e
      exact hrec _ _ _ _ _ e
    ·intro w'' hR3 hI3 hs hk
     have h1:=hk (w.heap.size+1) (.inr (.inl rfl))
     rw[xR (hlt hl1)]at h1
     have h2:=hk w.heap.size (.inl rfl)
     rw[zR (by omega),hd1]at h2
     refine⟨h1,by rw[xE]at hs ⊢;omega,fun k hV=>?_,.inl ⟨rfl,hRst _ _ (z8 (.inr rfl)) hR3,hIs hI3,xR (hlt h1),?_⟩⟩
     ·have:=hVa k hV
      rw[zR (by omega),hk k (.inr (.inr hV)),zR (by omega),hk1 k (.inr (.inr hV))]
     ·rw[zR (by omega)];exact h2
    ·intro c w'' hDc hs hk
     have h1:=hk (w.heap.size+1) (.inr (.inl rfl))
     rw[xR (hlt hl1)]at h1
     have h2:=hk w.heap.size (.inl rfl)
     rw[zR (by omega),hd1]at h2
     refine⟨h1,by rw[xE]at hs ⊢;omega,fun k hV=>?_,.inr ⟨rfl,c,hD V V c _ _ hDc (Only.yE (.inr (.inr rfl))) (fun k hk=>.inl hk),xR (hlt h1),?_⟩⟩
     ·have:=hVa k hV
      rw[zR (by omega),hk k (.inr (.inr hV)),zR (by omega),hk1 k (.inr (.inr hV))]
     ·rw[zR (by omega)];exact h2)
  have:=hY (tv i) w' Qv hl hb;rw[htv i hi]at this;obtain⟨fn,tmps,asg,bd,h1,h2⟩:=this;refine⟨fn,tmps,asg,bd,h1,RoundIn.mono h2 ?_⟩;rintro(v|c|_) w2 he
  ·obtain⟨b,rfl,q1,q2,⟨rfl,hh1,hh2,hh3,hh4⟩|⟨rfl,c,hh1,hh2,hh3⟩⟩:=he
   ·exact⟨q1,q2,.inl ⟨rfl,hh1,hh2,hh3,hh4,hVa⟩⟩
   ·exact⟨q1,q2,.inr ⟨rfl,c,hh1,hh2,hh3,hVa⟩⟩
  ·exact he
  ·exact he
 ·rintro(v|c|_) w3 he
  ·obtain⟨V,⟨⟨hI3,hl,hd,_⟩,_,hE⟩|⟨c,hD3,hl,hd,_⟩⟩:=he
   ·refine⟨.ready,none,by simp,hl,hdone V _ (hIs hI3) (hEst _ _ (z8 (.inr rfl)) hE) (by rw[xE];have:=hlt hl;omega) ?_⟩;rw[zR (by omega)];exact hd
   ·refine⟨.done,some c,by simp,hl,hjump V c _ (hD V V c _ _ hD3 (Only.yE (.inr (.inr rfl))) (fun k hk=>.inl hk)) (by rw[xE];have:=hlt hl;omega) ?_⟩;rw[zR (by omega)];exact hd
  ·exact he
  ·exact he
end V
/- Contracts of the package space:refs. -/
namespace V
open Go Go.Proofs Go.RowKit Crc
theorem Sli.congr {α:Type} {E:Enc α} {w w':World} {A:Option Addr} {n:Nat} {xs:List α} (h:Sli E w A n xs) (hs:∀ a,A=some a->w'.heap[a.block]?=w.heap[a.block]?):Sli E w' A n xs:=by
 refine⟨h.1,h.2.1,fun hn=>?_⟩;obtain⟨a,e1,e2,e3⟩:=h.2.2 hn;refine⟨a,e1,e2,fun j v hj=>?_⟩;have hc:=e3 j v hj;have hab:(a.add j).block=a.block:=by unfold Addr.add;split<;>rfl
 unfold World.cell? at hc ⊢;rw[show w'.heap[(a.add j).block]?=w.heap[(a.add j).block]? by rw[hab];exact hs a e1];exact hc
def vl (l:List Bool):List Value:=l.map Value.bool
theorem zlp {l:List Bool} {i:Nat} (h:i<l.length):(vl l)[i]?=some (.bool (l.getD i false)):=by simp[vl,h]
theorem zlq (l:List Bool) (i:Nat) (x:Bool):(vl l).set i (.bool x)=vl (l.set i x):=by simp[vl,List.map_set]
theorem zhD (l:List Bool):(vl l).length=l.length:=by simp[vl]
structure Refs (w:World) (b re r1 r2 r3 r8 r9 g:Nat) (x0:SLC) (seen:List Bool) (e:Int):Prop where
 b1:Blk w r1 [.pointer (some ⟨b,0,none⟩)] 48
 b2:Blk w r2 [.slice x0.1 x0.2.1 x0.2.2] 54
 b3:Blk w r3 [.pointer (some ⟨re,0,none⟩)] 223
 b8:Blk w r8 [.slice (some ⟨g,0,none⟩) seen.length seen.length] 271
 b9:∃ t,Blk w r9 [.func (.func 179) #[] #[.pointer (some ⟨r1,0,none⟩),.pointer (some ⟨r3,0,none⟩),.pointer (some ⟨r8,0,none⟩),.pointer (some ⟨r9,0,none⟩)]] t
 row:Blk w g (vl seen) 4
 err:Blk w re [.int .i64 e] 28
def QB (re r1 r2 r3 r8 r9 g:Nat) (k:Nat):Prop:=k=r1\/k=r2\/k=r3\/k=r8\/k=r9\/k=g\/k=re
theorem Refs.at_ {w w':World} {b re r1 r2 r3 r8 r9 g:Nat} {x0:SLC} {seen:List Bool} {e:Int} (h:Refs w b re r1 r2 r3 r8 r9 g x0 seen e) (hs:∀ k,QB re r1 r2 r3 r8 r9 g k->w'.heap[k]?=w.heap[k]?):Refs w' b re r1 r2 r3 r8 r9 g x0 seen e:=by
 obtain⟨t,h9⟩:=h.b9;exact⟨h.b1.at_ (hs _ (.inl rfl)),h.b2.at_ (hs _ (.inr (.inl rfl))),h.b3.at_ (hs _ (.inr (.inr (.inl rfl)))),h.b8.at_ (hs _ (.inr (.inr (.inr (.inl rfl))))),⟨t,h9.at_ (hs _ (.inr (.inr (.inr (.inr (.inl rfl)))))) ⟩,h.row.at_ (hs _ (.inr (.inr (.inr (.inr (.inr (.inl rfl))))))),h.err.at_ (hs _ (.inr (.inr (.inr (.inr (.inr (.inr rfl))))))) ⟩
structure zeU (re r1 r2 r3 r8 r9 g:Nat):Prop where
 g:g≠r1/\g≠r2/\g≠r3/\g≠r8/\g≠r9/\g≠re
 re:re≠r1/\re≠r2/\re≠r3/\re≠r8/\re≠r9
theorem Refs.zqw {w:World} {b re r1 r2 r3 r8 r9 g:Nat} {x0:SLC} {seen:List Bool} {e:Int} (h:Refs w b re r1 r2 r3 r8 r9 g x0 seen e) (hn:zeU re r1 r2 r3 r8 r9 g) (e':Int):Refs (w.setCell ⟨re,0,none⟩ (.int .i64 e')) b re r1 r2 r3 r8 r9 g x0 seen e':=by
 obtain⟨t,h9⟩:=h.b9;obtain⟨n1,n2,n3,n4,n5⟩:=hn.re;exact⟨h.b1.other n1 _,h.b2.other n2 _,h.b3.other n3 _,h.b8.other n4 _,⟨t,h9.other n5 _⟩,h.row.other (fun e=>hn.g.2.2.2.2.2 e.symm) _,h.err.set 0 _⟩
theorem Refs.mark {w:World} {b re r1 r2 r3 r8 r9 g:Nat} {x0:SLC} {seen:List Bool} {e:Int} (h:Refs w b re r1 r2 r3 r8 r9 g x0 seen e) (hn:zeU re r1 r2 r3 r8 r9 g) (k:Nat):Refs (w.setCell ⟨g,k,none⟩ (.bool true)) b re r1 r2 r3 r8 r9 g x0 (seen.set k true) e:=by
 obtain⟨t,h9⟩:=h.b9;obtain⟨n1,n2,n3,n4,n5,n6⟩:=hn.g;refine⟨h.b1.other n1 _,h.b2.other n2 _,h.b3.other n3 _,?_,⟨t,h9.other n5 _⟩,?_,h.err.other n6 _⟩
 ·rw[length_set];exact h.b8.other n4 _
 ·rw[<- zlq];exact h.row.set k _
section
variable {b db:Nat} {S:Spa} {F Fd:Nat->Prop} {x:SLC} {hb hr nb nr:Nat} {m:MkL}
def nums (ys:List Nat):List (List Value):=ys.map fun n:Nat=>[.int .u32 (n:Int)]
theorem znO {ys:List Nat} {i:Nat} (h:i<(nums ys).length) (k:Nat) (hk:ys[i]?=some k):(nums ys)[i]=[.int .u32 (k:Int)]:=by
 obtain⟨h1,h2⟩:=List.getElem?_eq_some_iff.1 hk;simp[nums,h2]
def zpQ (J:(Nat->Prop)->Nat->WP) (E:(Nat->Prop)->WP) (V:Nat->Prop) (w:World) (b re r1 r2 r3 r8 r9 g:Nat) (x0:SLC) (i:Nat) (s':List Bool) (e:Int) (v:Value) (w':World):Prop:=
 (∃ V':Nat->Prop,(∀ k,V k->V' k)/\(∀ k,V' k->V k\/w.heap.size<=k)/\(∀ k,V k->k≠g->k≠re->w'.heap[k]?=w.heap[k]?)/\w.heap.size<=w'.heap.size/\(∀ k,V' k->k<w'.heap.size)/\
  v=.bool (decide (e=0))/\J V' i w'/\Refs w' b re r1 r2 r3 r8 r9 g x0 s' e)\/(v=.bool false/\∃ V',E V' w')
theorem ziG {N0 l:Nat} {J:(Nat->Prop)->Nat->WP} {E:(Nat->Prop)->WP} {L:List Nat} {R:WP} {b re r1 r2 r3 r8 r9 g:Nat} {x0:SLC}
  (hRS:∀ w,R w->SpM w b db S F Fd x hb hr nb nr m) (hRst:∀ w' w'',R w'->Only (fun k=>N0<=k) w' w''->R w'') (hne:zeU re r1 r2 r3 r8 r9 g) (hQ0:∀ k,QB re r1 r2 r3 r8 r9 g k->N0<=k)
  (hJR:∀ V i w',J V i w'->R w')
  (hJ:∀ (V V':Nat->Prop) i w' w'',J V i w'->Only V w' w''->(∀ k,V' k->V k\/w'.heap.size<=k)->R w''->J V' i w'')
  (hY:∀ (V:Nat->Prop) i w' (h:i<(nums L).length),J V i w'->(∀ k,V k->k<w'.heap.size)->ja prog l (nums L)[i] w' fun v w''=>w'.heap.size<=w''.heap.size/\(∀ k,V k->w''.heap[k]?=w'.heap[k]?)/\
   ((v=.bool true/\R w''/\J V (i+1) w'')\/(v=.bool false/\E V w''))):
  ∀ (d:Nat) {s s':List Bool} {ls ys:List Nat} {e:Int},Vis S.get d s ls ys s' e->∀ (V:Nat->Prop) (i:Nat) (w:World) (A:Option Addr) (n c:Nat),J V i w->(∀ k,QB re r1 r2 r3 r8 r9 g k->V k)->(∀ k,V k->k<w.heap.size)->(∀ k,V k->N0<=k)->
   Refs w b re r1 r2 r3 r8 r9 g x0 s 0->s.length=S.N->(∀ w',R w'->(∀ k,V k->k≠g->k≠re->w'.heap[k]?=w.heap[k]?)->Sli (zv .u32) w' A n ls)->(∀ k∈ls,k<4294967296)->(∀ j,j<ys.length->L[i+j]?=ys[j]?)->N0<=w.heap.size->
   Calls prog 179 #[.func (.yield l) #[] #[],.slice A n c,.pointer (some ⟨r1,0,none⟩),.pointer (some ⟨r3,0,none⟩),.pointer (some ⟨r8,0,none⟩),.pointer (some ⟨r9,0,none⟩)] w
    (Ret (zpQ J E V w b re r1 r2 r3 r8 r9 g x0 (i+ys.length) s' e)):=by
 intro d
 induction d using Nat.strongRecOn with
 |_ d ih=>
 intro s s' ls ys e hv V i w A n c hJ0 hQV hVlt hV0 hRf hsl hA h32 hL hN0;apply zm0;unfold S179;have hlen:ls.length=n:=(hA w (hJR _ _ _ hJ0) (fun _ _ _ _=>rfl)).len;have hnle:=(hA w (hJR _ _ _ hJ0) (fun _ _ _ _=>rfl)).le;refine zw (fun y w'=>∃ (j:Nat) (Vj:Nat->Prop) (ij:Nat) (sj:List Bool) (yr:List Nat),j<=n/\y=((j:Int),())/\Vis S.get d sj (ls.drop j) yr s' e/\(∀ k,V k->Vj k)/\(∀ k,Vj k->V k\/w.heap.size<=k)/\(∀ k,V k->k≠g->k≠re->w'.heap[k]?=w.heap[k]?)/\w.heap.size<=w'.heap.size/\(∀ k,Vj k->k<w'.heap.size)/\
   J Vj ij w'/\Refs w' b re r1 r2 r3 r8 r9 g x0 sj 0/\sj.length=S.N/\ij+yr.length=i+ys.length/\(∀ t,t<yr.length->L[ij+t]?=yr[t]?)) (fun y=>(n-y.1).toNat)
  ⟨0,V,i,s,ys,by omega,rfl,hv,fun k h=>h,fun k h=>.inl h,fun _ _ _ _=>rfl,Nat.le_refl _,hVlt,hJ0,hRf,hsl,rfl,hL⟩ ?_
 rintro _ w3 ⟨j,Vj,ij,sj,yr,hj,rfl,hvj,hVV,hVN,hkp,hsz,hVl,hJj,hRj,hsj,hij,hLj⟩;dsimp only;have hRw:=hJR _ _ _ hJj;have hsli:=hA w3 hRw hkp;have hVj0:∀ k,Vj k->N0<=k:=fun k hk=>by
  rcases hVN k hk with e|e
  ·exact hV0 k e
  ·omega
 by_cases hlt:j<n
 ·refine zf (decide_eq_true (by omega)) ?_;refine z6 hsli (by omega) (by omega) ?_;rw[Int.toNat_natCast];have eg:ls[j]?=some (ls.getD j 0):=by rw[getD_eq_getElem?_getD,List.getElem?_eq_getElem (by omega)];rfl
  have hk32:=h32 _ (mem_of_getElem? eg);have edrop:ls.drop j=ls.getD j 0::ls.drop (j+1):=by
   obtain⟨h1,h2⟩:=List.getElem?_eq_some_iff.1 eg;rw[drop_eq_getElem_cons h1,h2]
  rw[edrop]at hvj;generalize ls.getD j 0=k at *;have hw1:wrap .i64 ((j:Int)+1)=((j+1:Nat):Int):=by rw[wrap_i64 (by omega) (by omega)];rfl
  refine zg (fun hz=>?_) (fun hz=>?_)
  ·have hz:k=0:=by have:=beq_iff_eq.1 hz;omega
   subst hz;rw[hw1];cases hvj with
   |zero hvj=>exact⟨⟨j+1,Vj,ij,sj,yr,by omega,rfl,hvj,hVV,hVN,hkp,hsz,hVl,hJj,hRj,hsj,hij,hLj⟩,by omega⟩
   |err h1=>exact absurd rfl h1
   |seen h1=>exact absurd rfl h1
   |new h1=>exact absurd rfl h1
   |newE h1=>exact absurd rfl h1
  have hz:k≠0:=by have:=beq_eq_false_iff_ne.1 hz;omega
  have hS:=hRS _ hRw;refine zl (x:=some ⟨b,0,none⟩) hRj.b1 (by rfl) ?_;refine zb (vk hS hk32) ?_;rintro _ w4 ⟨y,rfl,hok,he4⟩;refine⟨(pgT (S.get k).1 y,(S.get k).2,()),rfl,?_⟩;refine yz (vs:=pgV (S.get k).1 y) (by rfl) (jB _ _) (fun r7 w5 hb5 he5 hr7=>?_) (by rfl);have he45:=he4.trans he5;have hok:=hok.ext he5;have hkr:∀ j,orow y.1=some j->w3.heap.size<=j:=fun j hj=>hok.row j hj;have hR5:R w5:=hRst _ _ hRw (Only.zG he45)
  let V1:Nat->Prop:=fun q=>Vj q\/q=r7\/orow y.1=some q
  have hr7w:w3.heap.size<=r7:=Nat.le_trans he4.size hr7;have hV1n:∀ q,V1 q->Vj q\/w3.heap.size<=q:=fun q hq=>by
   rcases hq with hq|rfl|hq
   ·exact .inl hq
   ·exact .inr hr7w
   ·exact .inr (hkr q hq)
  have hJ5:J V1 ij w5:=hJ _ _ _ _ _ hJj (Only.zG he45) hV1n hR5;have hV1l:∀ q,V1 q->q<w5.heap.size:=fun q hq=>by
   rcases hq with hq|rfl|hq
   ·exact Nat.lt_of_lt_of_le (hVl q hq) he45.size
   ·exact hb5.lt
   ·exact hok.ye q hq
  have hQ3:∀ q,QB re r1 r2 r3 r8 r9 g q->q<w3.heap.size:=fun q hq=>hVl q (hVV q (hQV q hq));have hR5f:=hRj.at_ (fun q hq=>he45.block q (hQ3 q hq));have hk5:∀ q,V q->q≠g->q≠re->w5.heap[q]?=w.heap[q]?:=fun q hq h1 h2=>(he45.block q (hVl q (hVV q hq))).trans (hkp q hq h1 h2);have hV1N:∀ q,V1 q->V q\/w.heap.size<=q:=fun q hq=>by
   rcases hV1n q hq with e|e
   ·exact hVN q e
   ·exact .inr (Nat.le_trans hsz e)
  have hV10:∀ q,V1 q->N0<=q:=fun q hq=>by
   rcases hV1N q hq with e|e
   ·exact hV0 q e
   ·omega
  have h35:=he45.size;have hreV:V1 re:=.inl (hVV _ (hQV _ (.inr (.inr (.inr (.inr (.inr (.inr rfl))))))));have hgV:V1 g:=.inl (hVV _ (hQV _ (.inr (.inr (.inr (.inr (.inr (.inl rfl))))))));dsimp only;refine zg (fun hq=>?_) (fun hq=>?_)
  ·have hq:(S.get k).2≠0:=bne_iff_ne.1 hq;rcases hvj.inv hz with ⟨v1,v2,rfl,rfl⟩|⟨v1,_⟩|⟨v1,_⟩
   ·refine zl (x:=some ⟨re,0,none⟩) hR5f.b3 (by rfl) (zr ?_);show stW ⟨re,0,none⟩ _ _ w5;refine zQ hR5f.err (by show 0<1;omega) ?_;have hg6:=yH w5 re 0 (.int .i64 (S.get k).2);have o6:Only V1 w5 (w5.setCell ⟨re,0,none⟩ (.int .i64 (S.get k).2)):=Only.z7 hg6 (fun q hq=>.inl (by injection hq with hq;subst hq;exact hreV));refine .inl ⟨V1,fun q hq=>.inl (hVV q hq),hV1N,fun q hq h1 h2=>?_,by simp;omega,fun q hq=>by simp;exact hV1l q hq,?_,?_,?_⟩
    ·rw[Below.heap_setCell _ _ _ _ (by show q≠re;exact h2)];exact hk5 q hq h1 h2
    ·rw[decide_eq_false v2]
    ·have:=hJ _ V1 _ _ _ hJ5 o6 (fun q hq=>.inl hq) (hRst _ _ hR5 (o6.mono hV10));rw[length_nil,Nat.add_zero]at hij;rw[<- hij];exact this
    ·rw[v1];exact hR5f.zqw hne _
   ·exact absurd v1 hq
   ·exact absurd v1 hq
  have hq:(S.get k).2=0:=bne_eq_false_iff_eq.1 hq;have hask:S.asked k=true:=by
   unfold Spa.get at hq;cases hh:S.asked k with
   |true=>rfl
   |false=>rw[if_pos hh]at hq;cases hq
  obtain⟨a1,a2,a3⟩:=kW.1 hask;have hy0:∃ yr',yr=k::yr':=by
   rcases hvj.inv hz with ⟨v1,v2,_⟩|⟨v1,v2,ys',v3,_⟩|⟨v1,v2,d1,ys1,s1,e1,v3,v4,⟨_,ys2,v5,_⟩|⟨_,_,v5,_⟩⟩
   ·exact absurd (hq.symm.trans v1) (fun h=>v2 h.symm)
   ·exact⟨_,v3⟩
   ·exact⟨_,v5⟩
   ·exact⟨_,v5⟩
  obtain⟨yr',hyr'⟩:=hy0;have hLk:L[ij]?=some k:=by
   have:=hLj 0 (by rw[hyr'];simp);rw[hyr']at this
   simpa using this
  have hidx:ij<(nums L).length:=by
   have:=(List.getElem?_eq_some_iff.1 hLk).1
   simpa [nums] using this
  refine .inr ⟨l,rfl,?_⟩;have hy:=hY V1 ij w5 hidx hJ5 hV1l;rw[znO hidx k hLk]at hy;obtain⟨fn,tmps,asg,bd,hy1,hy2⟩:=hy;refine⟨fn,tmps,asg,bd,hy1,RoundIn.mono hy2 ?_⟩;rintro(v|cc|_) w6 hvv;rotate_left
  ·exact hvv
  ·exact hvv
  obtain⟨hz6,hk6,⟨rfl,hR6,hJ6⟩|⟨rfl,hE6⟩⟩:=hvv;rotate_left
  ·exact⟨false,rfl,zf (by rfl) (.inr ⟨rfl,V1,hE6⟩)⟩
  refine⟨true,rfl,zd (by rfl) ?_⟩;have hR6f:=hR5f.at_ (fun q hq=>hk6 q (.inl (hVV q (hQV q hq))));have hb6:=hb5.at_ (hk6 r7 (.inr (.inl rfl)));have hks6:Sli (zv .u32) w6 y.1 y.2.1 (S.get k).1.2.1:=hok.sl.congr (fun a ha=>hk6 _ (.inr (.inr (by rw[ha];rfl))));have hkk6:∀ q,V q->q≠g->q≠re->w6.heap[q]?=w.heap[q]?:=fun q hq h1 h2=>(hk6 q (.inl (hVV q hq))).trans (hk5 q hq h1 h2);have hV1l6:∀ q,V1 q->q<w6.heap.size:=fun q hq=>Nat.lt_of_lt_of_le (hV1l q hq) hz6;have hsl6:sj.length=S.N:=hsj;refine zl (x:=((some ⟨g,0,none⟩:Option Addr),sj.length,sj.length)) hR6f.b8 (by rfl) ?_;dsimp only;refine zL ⟨by omega,by omega⟩ (zr ?_);rw[Int.toNat_natCast,Nat.mul_one];refine yK (l:=.bool) (x:=sj.getD k false) hR6f.row (zlp (by omega)) ?_;refine zg (fun hs=>?_) (fun hs=>?_)
  ·rw[hw1];rcases hvj.inv hz with ⟨v1,v2,_⟩|⟨v1,v2,ys',v3,v4⟩|⟨v1,v2,_⟩
   ·exact absurd (hq.symm.trans v1) (fun h=>v2 h.symm)
   ·subst v3;refine⟨⟨j+1,V1,ij+1,sj,ys',by omega,rfl,v4,fun q hq=>.inl (hVV q hq),hV1N,hkk6,by omega,hV1l6,hJ6,hR6f,hsj,by rw[length_cons]at hij;omega,fun t ht=>?_⟩,by omega⟩;have:=hLj (t+1) (by simp;omega);rw[List.getElem?_cons_succ]at this;rw[<- this];congr 1;omega
   ·rw[v2]at hs;cases hs
  rcases hvj.inv hz with ⟨v1,v2,_⟩|⟨v1,v2,_⟩|⟨v1,v2,d1,ys1,s1,e1,v3,v4,v5⟩
  ·exact absurd (hq.symm.trans v1) (fun h=>v2 h.symm)
  ·rw[v2]at hs;cases hs
  refine zl (x:=((some ⟨g,0,none⟩:Option Addr),sj.length,sj.length)) hR6f.b8 (by rfl) ?_;dsimp only;refine zL ⟨by omega,by omega⟩ (zr ?_);rw[zC,Nat.zero_add];refine zQ hR6f.row (by rw[zhD];omega) ?_;have hg7:=yH w6 g k (.bool true);have o7:Only V1 w6 (w6.setCell ⟨g,k,none⟩ (.bool true)):=Only.z7 hg7 (fun q hq=>.inl (by injection hq with hq;subst hq;exact hgV));have hR7:=hRst _ _ hR6 (o7.mono hV10);have hJ7:=hJ _ V1 _ _ _ hJ6 o7 (fun q hq=>.inl hq) hR7;have hR7f:=hR6f.mark hne k;have hgr7:g≠r7:=fun e=>by have:=hQ3 g (.inr (.inr (.inr (.inr (.inr (.inl rfl))))));omega
  have hgky:∀ a,y.1=some a->a.block≠g:=fun a ha e=>by have:=hQ3 g (.inr (.inr (.inr (.inr (.inr (.inl rfl))))));have:=hkr a.block (by rw[ha];rfl);omega
  have hrky:∀ a,y.1=some a->a.block≠re:=fun a ha e=>by have:=hQ3 re (.inr (.inr (.inr (.inr (.inr (.inr rfl))))));have:=hkr a.block (by rw[ha];rfl);omega
  have hb7:=hb6.other (p:=⟨g,k,none⟩) hgr7 (.bool true);have hks7:Sli (zv .u32) (w6.setCell ⟨g,k,none⟩ (.bool true)) y.1 y.2.1 (S.get k).1.2.1:=hks6.congr (fun a ha=>Below.heap_setCell _ _ _ _ (hgky a ha));have hk7:∀ q,q≠g->(w6.setCell ⟨g,k,none⟩ (.bool true)).heap[q]?=w6.heap[q]?:=fun q hq=>Below.heap_setCell _ _ _ _ hq;have hz7:(w6.setCell ⟨g,k,none⟩ (.bool true)).heap.size=w6.heap.size:=by simp
  generalize w6.setCell ⟨g,k,none⟩ (.bool true)=w7 at *;obtain⟨t9,hb9⟩:=hR7f.b9;refine zl (l:=.any) (x:=.func (.func 179) #[] #[.pointer (some ⟨r1,0,none⟩),.pointer (some ⟨r3,0,none⟩),.pointer (some ⟨r8,0,none⟩),.pointer (some ⟨r9,0,none⟩)]) hb9 (by rfl) ?_;refine zm (l:=.slc) 1 y hb7 (by rfl) ?_;have hkids:=zbQ (N:=S.N) (bs:=B (S.dev.read k).1);have hgetp:(S.get k).1=(xW S.N (B (S.dev.read k).1)).1:=by
   unfold Spa.get;rw[if_neg (by rw[hask];simp)];unfold Spa.get at hq;rw[if_neg (by rw[hask];simp)]at hq;split
   ·rename_i h0;rw[if_pos h0]at hq;cases hq
   ·rfl
  have hLs:∀ t,t<ys1.length->L[ij+1+t]?=ys1[t]?:=by
   intro t ht;rcases v5 with ⟨_,ys2,v5,_⟩|⟨_,_,v5,_⟩
   ·have:=hLj (t+1) (by rw[v5];simp;omega);rw[v5,List.getElem?_cons_succ,List.getElem?_append_left ht]at this;rw[<- this];congr 1;omega
   ·have:=hLj (t+1) (by rw[v5];simp;omega);rw[v5,List.getElem?_cons_succ]at this;rw[<- this];congr 1;omega
  have hcall:=ih d1 v3 v4 V1 (ij+1) w7 y.1 y.2.1 y.2.2 hJ7 (fun q hq=>.inl (hVV q (hQV q hq))) (fun q hq=>by rw[hz7];exact hV1l6 q hq) hV10 hR7f (by rw[length_set];exact hsj)
   (fun w' _ hk=>hks7.congr (fun a ha=>hk _ (.inr (.inr (by rw[ha];rfl))) (hgky a ha) (hrky a ha))) (fun q hq=>by
    have:=hkids.2 q (by rw[<- hgetp];exact hq)
    have:=hS.dims.n
    omega) hLs (by omega)
  refine xD (by kernel_rfl) (zb hcall ?_);rintro v8 w8 (⟨V2,p1,p2,p3,p4,p5,rfl,p6,p7⟩|⟨rfl,V2,p1⟩);rotate_left
  ·exact⟨false,rfl,zf (by rfl) (.inr ⟨rfl,V2,p1⟩)⟩
  refine⟨_,rfl,?_⟩;have hV2N:∀ q,V2 q->V q\/w.heap.size<=q:=fun q hq=>by
   rcases p2 q hq with e|e
   ·exact hV1N q e
   ·right;omega
  have hk8:∀ q,V q->q≠g->q≠re->w8.heap[q]?=w.heap[q]?:=fun q hq h1 h2=>by
   rw[p3 q (.inl (hVV q hq)) h1 h2,hk7 q h1];exact hkk6 q hq h1 h2
  rcases v5 with ⟨rfl,ys2,rfl,v6⟩|⟨w1,rfl,rfl,rfl⟩
  ·refine zd (by rfl) ?_;rw[hw1];rw[length_cons,length_append]at hij;refine⟨⟨j+1,V2,ij+1+ys1.length,s1,ys2,by omega,rfl,v6,fun q hq=>p1 q (.inl (hVV q hq)),hV2N,hk8,by omega,p5,p6,p7,by rw[v4.len,length_set];exact hsj,by omega,fun t ht=>?_⟩,by omega⟩;have:=hLj (1+ys1.length+t) (by simp;omega);rw[show 1+ys1.length+t=(ys1.length+t)+1 by omega,List.getElem?_cons_succ,List.getElem?_append_right (by omega),show ys1.length+t-ys1.length=t by omega]at this;rw[<- this];congr 1;omega
  ·refine zf (by rw[decide_eq_false w1];rfl) ?_;rw[length_cons]at hij;refine .inl ⟨V2,fun q hq=>p1 q (.inl (hVV q hq)),hV2N,hk8,by omega,p5,by rw[decide_eq_false w1],?_,p7⟩;rw[<- hij,show ij+(ys1.length+1)=ij+1+ys1.length by omega];exact p6
 ·obtain rfl:j=n:=by omega
  refine zd (decide_eq_false (by omega)) ?_;rw[drop_of_length_le (by omega)]at hvj;cases hvj;rw[length_nil,Nat.add_zero]at hij;rw[<- hij];exact .inl ⟨Vj,hVV,hVN,hkp,hsz,hVl,rfl,hJj,hRj⟩
end
end V
/- Contracts of the package space:Walk,Audit. -/
namespace V
open Go Go.Proofs Go.RowKit Crc
variable {w w':World} {b db:Nat} {S:Spa} {F Fd:Nat->Prop} {x:SLC} {hb hr nb nr:Nat} {m:MkL}
theorem zkb:Elem prog 271 4 (.bool false) 1:=⟨by kernel_rfl,by kernel_rfl,by kernel_rfl⟩
theorem zlr:Elem prog 150 3 (.int .i64 0) 8:=⟨by kernel_rfl,by kernel_rfl,by kernel_rfl⟩
def zeV (b db:Nat) (S:Spa) (F Fd:Nat->Prop) (x:SLC) (hb hr nb nr:Nat) (m:MkL) (x0:SLC) (roots:List Nat):WP:=fun w=>SpM w b db S F Fd x hb hr nb nr m/\Sli (zv .u32) w x0.1 x0.2.1 roots
theorem zkc (h:SpM w b db S F Fd x hb hr nb nr m) {x0:SLC} {roots ys:List Nat} {re:Nat} {d:Nat} {s':List Bool} {e:Int} (hs:Sli (zv .u32) w x0.1 x0.2.1 roots) (h32:∀ k∈roots,k<4294967296)
  (hre:Blk w re [.int .i64 0] 28) {N0:Nat} (hN0:N0<=re) (hF0:∀ k,F k->k<N0) (hR0:∀ a,x0.1=some a->a.block<N0) (hv:Vis S.get d (List.replicate S.N false) roots ys s' e):
  Calls prog 140 #[.pointer (some ⟨b,0,none⟩),.slice x0.1 x0.2.1 x0.2.2,.pointer (some ⟨re,0,none⟩)] w (Ret fun v w'=>∃ (Q:Nat->Prop) (R0:WP),zgL prog v (nums ys) (zeV b db S F Fd x hb hr nb nr m x0 roots) Q R0 (fun w=>Blk w re [.int .i64 e] 28) (fun _ _=>True)/\R0 w'/\(∀ w1 w2,R0 w1->Ext w1 w2->R0 w2)/\(∀ k,Q k->k<w'.heap.size)/\(∀ k,Q k->k=re\/w.heap.size<=k)/\Ext w w'):=by
 have hdim:=h.dims;have hN:=hdim.n;have hbl:=hdim.blocks;apply zmA;unfold S140;refine zq fun r1 w1 hb1 he1 hr1 hz1=>?_;refine zq fun r2 w2 hb2 he2 hr2 hz2=>?_;refine zq fun r3 w3 hb3 he3 hr3 hz3=>?_;have hb1:=(hb1.ext he2).ext he3;have hb2:=hb2.ext he3;have he:=(he1.trans he2).trans he3;obtain⟨t,hbx⟩:=(h.ext he).box;refine zl (x:=some ⟨b,0,none⟩) hb1 (by rfl) (zr (qh 3 S.sup.blocks hbx (by rfl) (by rfl) ?_));rw[hbl];refine vG (kl:=.i64) (kc:=.i64) (B:=w3.heap.size) (z:=.bool false) (bytes:=1) zkb (by rfl) (Nat.le_refl _) (by omega) (by omega) ?_;intro w4 ho4 hg4;have he4:Ext w3 w4:=(Ext.refl w3).grown hg4 (fun j hj=>by cases hj);have hrow:Blk w4 w3.heap.size (vl (List.replicate S.N false)) 4:=by
  have:=zbz ho4;have e:(List.replicate S.N (Value.bool false))=vl (List.replicate S.N false):=by simp[vl]
  rw[<- e];exact this
 refine zq fun r8 w5 hb8 he5 hr8 hz8=>?_;refine zQ hb8 (by show 0<1;omega) ?_;have hb8':=hb8.set 0 (.slice (some ⟨w3.heap.size,0,none⟩) S.N S.N);have hlt4:=hrow.lt;have he6:Ext w4 (w5.setCell ⟨r8,0,none⟩ (.slice (some ⟨w3.heap.size,0,none⟩) S.N S.N)):=he5.set (by show w4.heap.size<=r8;omega) _;have hz6:(w5.setCell ⟨r8,0,none⟩ (.slice (some ⟨w3.heap.size,0,none⟩) S.N S.N)).heap.size=r8+1:=by simp[hz8]
 generalize w5.setCell ⟨r8,0,none⟩ (.slice (some ⟨w3.heap.size,0,none⟩) S.N S.N)=w6 at *;refine zq fun r9 w7 hb9 he7 hr9 hz9=>?_;have hz0:(zbo prog 272)=#[.nilFunc]:=by kernel_rfl
 rw[hz0]at hb9;refine zQ hb9 (by show 0<1;omega) ?_;have hb9':=hb9.set 0 (.func (.func 179) #[] #[.pointer (some ⟨r1,0,none⟩),.pointer (some ⟨r3,0,none⟩),.pointer (some ⟨r8,0,none⟩),.pointer (some ⟨r9,0,none⟩)]);have he8:Ext w6 (w7.setCell ⟨r9,0,none⟩ (.func (.func 179) #[] #[.pointer (some ⟨r1,0,none⟩),.pointer (some ⟨r3,0,none⟩),.pointer (some ⟨r8,0,none⟩),.pointer (some ⟨r9,0,none⟩)])):=he7.set (by show w6.heap.size<=r9;omega) _;have hz8':(w7.setCell ⟨r9,0,none⟩ (.func (.func 179) #[] #[.pointer (some ⟨r1,0,none⟩),.pointer (some ⟨r3,0,none⟩),.pointer (some ⟨r8,0,none⟩),.pointer (some ⟨r9,0,none⟩)])).heap.size=r9+1:=by simp[hz9]
 generalize w7.setCell ⟨r9,0,none⟩ (.func (.func 179) #[] #[.pointer (some ⟨r1,0,none⟩),.pointer (some ⟨r3,0,none⟩),.pointer (some ⟨r8,0,none⟩),.pointer (some ⟨r9,0,none⟩)])=w8 at *;have he36:=he4.trans he6;have he38:=he36.trans he8;have he08:=he.trans he38;have hrelt:=hre.lt;have hs4:=he4.size;have hs1:=he1.size
 let g:=w3.heap.size
 have hg:g=w3.heap.size:=rfl;have hRf:Refs w8 b re r1 r2 r3 r8 r9 g x0 (List.replicate S.N false) 0:=by
  refine⟨hb1.ext he38,hb2.ext he38,hb3.ext he38,?_,⟨_,hb9'⟩,hrow.ext (he6.trans he8),hre.ext he08⟩;rw[length_replicate];exact hb8'.ext he8
 have hne:zeU re r1 r2 r3 r8 r9 g:=⟨⟨by omega,by omega,by omega,by omega,by omega,by omega⟩,⟨by omega,by omega,by omega,by omega,by omega⟩⟩;have hQ:∀ k,QB re r1 r2 r3 r8 r9 g k->k=re\/w.heap.size<=k:=fun k hk=>by
  rcases hk with rfl|rfl|rfl|rfl|rfl|rfl|rfl
  ·right;omega
  ·right;omega
  ·right;omega
  ·right;omega
  ·right;omega
  ·right;omega
  ·left;rfl
 have hQl:∀ k,QB re r1 r2 r3 r8 r9 g k->k<w8.heap.size:=fun k hk=>by
  rcases hk with rfl|rfl|rfl|rfl|rfl|rfl|rfl<;>omega
 have hQ0:∀ k,QB re r1 r2 r3 r8 r9 g k->N0<=k:=fun k hk=>by
  rcases hQ k hk with e|e<;>omega
 refine⟨QB re r1 r2 r3 r8 r9 g,fun w=>Refs w b re r1 r2 r3 r8 r9 g x0 (List.replicate S.N false) 0,?_,hRf,fun w1 w2 h1 h2=>?_,hQl,hQ,he08⟩;rotate_left
 ·obtain⟨t9,h9⟩:=h1.b9;exact⟨h1.b1.ext h2,h1.b2.ext h2,h1.b3.ext h2,h1.b8.ext h2,⟨t9,h9.ext h2⟩,h1.row.ext h2,h1.err.ext h2⟩
 refine⟨_,_,rfl,by kernel_rfl,fun l J E wc hJ0 hQc hR0c hJR hJs hEs hY=>?_⟩;apply zm1;unfold S180;obtain⟨t9,h9⟩:=hR0c.b9;refine zl (l:=.any) (x:=.func (.func 179) #[] #[.pointer (some ⟨r1,0,none⟩),.pointer (some ⟨r3,0,none⟩),.pointer (some ⟨r8,0,none⟩),.pointer (some ⟨r9,0,none⟩)]) h9 (by rfl) ?_;refine zl (l:=.slc) (x:=x0) hR0c.b2 (by rfl) ?_;have hcall:=ziG (N0:=N0) (l:=l) (J:=J) (E:=E) (L:=ys) (R:=zeV b db S F Fd x hb hr nb nr m x0 roots) (x0:=x0) (b:=b) (re:=re) (r1:=r1) (r2:=r2) (r3:=r3) (r8:=r8) (r9:=r9) (g:=g)
  (fun w h=>h.1) (fun w' w'' h hO=>⟨h.1.only hO (fun j hj hg=>by have:=hF0 j hj;have:N0<=j:=hg;omega),h.2.only hO (fun a ha hg=>by have:=hR0 a ha;have:N0<=a.block:=hg;omega)⟩) hne hQ0 hJR hJs (fun V i w' h hJ hV=>hY V i w' h hJ hV (fun _ _=>trivial)) d hv (QB re r1 r2 r3 r8 r9 g) 0 wc x0.1 x0.2.1 x0.2.2 hJ0 (fun k hk=>hk) hQc hQ0 hR0c (by simp) (fun w' h _=>h.2) h32 (fun j hj=>by rw[Nat.zero_add]) (by have:=hQc re (.inr (.inr (.inr (.inr (.inr (.inr rfl))))));omega)
 refine xD (by kernel_rfl) (zb hcall ?_);rintro v9 w9 (⟨V2,p1,p2,p3,p4,p5,rfl,p6,p7⟩|⟨rfl,V2,p1⟩)
 ·refine⟨_,rfl,V2,.inl ⟨?_,p2,p7.err⟩⟩;rw[Nat.zero_add]at p6;have:(nums ys).length=ys.length:=by simp[nums]
  rw[this];exact p6
 ·exact⟨_,rfl,V2,.inr p1⟩
def vK (l:List Int) (n:Nat):List Int:=l.set n (l.getD n 0+1)
def vm (N:Nat) (ys:List Nat):List Int:=ys.foldl vK (List.replicate N 0)
def vU (l:List Int) (ps:List Nat):List Int:=ps.foldl (fun l p=>l.set p 1) l
def uv (N:Nat) (ps ys:List Nat):List Int:=vU (((vm N ys).set 0 1).set 1 1) ps
theorem kB (N:Nat) (ys:List Nat):(vm N ys).length=N:=by
 unfold vm;have:∀ (ys:List Nat) (l:List Int),(ys.foldl vK l).length=l.length:=by
  intro ys
  induction ys with
  |nil=>intro l;rfl
  |cons a r ih=>intro l;rw[foldl_cons,ih];simp[vK]
 rw[this];simp
theorem zls {N:Nat} {ys:List Nat} {i k:Nat} (h:ys[i]?=some k):vm N (ys.take (i+1))=vK (vm N (ys.take i)) k:=by
 unfold vm;rw[take_add_one,h,List.foldl_append];rfl
theorem zcV (l:List Int):jC.flat l=l.map fun n:Int=>(.int .i64 n:Value):=by
 induction l with
 |nil=>rfl
 |cons a r ih=>rw[map_cons,<- ih];rfl
theorem znP (l:List Int) (i:Nat) (v:Int):(jC.flat l).set i (.int .i64 v)=jC.flat (l.set i v):=by rw[zcV,zcV,List.map_set]
theorem zbR {w:World} {e:TypeId} {B:Nat} {A:Option Addr} {n c:Nat} {xs:List Int} {i:Int} {v:Int} {K:WP} (h:Owni jC e w B A n c xs) (h0:0<=i) (h1:i<(n:Int))
  (hK:∀ w',Owni jC e w' B A n c (xs.set i.toNat v)->w.grownBy w' (orow A)->K w'):
  (zc (0<=i/\i<((n:Nat):Int))<|zh A fun p=>stW (p.add (Int.toNat i*1)) (.int .i64 v) K) w:=by
 refine zfm (e:=e) (B:=B) (c:=c) (vs:=jC.flat xs) h h0 h1 fun w' ho hg=>hK w' ?_ (by rw[xn]at hg;exact hg);rw[znP]at ho;exact ho
theorem zkd (N:Nat):∀ (ys:List Nat) (k:Nat),0<=(vm N ys).getD k 0/\(vm N ys).getD k 0<=ys.length:=by
 have:∀ (ys:List Nat) (l:List Int) (c:Nat),(∀ k,0<=l.getD k 0/\l.getD k 0<=c)->∀ k,0<=(ys.foldl vK l).getD k 0/\(ys.foldl vK l).getD k 0<=((c+ys.length:Nat):Int):=by
  intro ys
  induction ys with
  |nil=>intro l c h k;exact h k
  |cons a r ih=>
   intro l c h k;rw[foldl_cons,length_cons,show c+(r.length+1)=(c+1)+r.length by omega];refine ih (vK l a) (c+1) (fun k=>?_) k;unfold vK;have h1:=h k;have h2:=h a;rw[getD_eq_getElem?_getD,List.getElem?_set];rw[getD_eq_getElem?_getD]at h1 h2;split
   ·split
    ·rw[getD_eq_getElem?_getD];simp only [Option.getD_some];omega
    ·simp;omega
   ·omega
 intro ys k;have:=this ys (List.replicate N 0) 0 (fun k=>by
  rw[getD_eq_getElem?_getD,List.getElem?_replicate]
  split<;>simp) k
 rw[Nat.zero_add]at this;exact this
theorem zke (h:SpM w b db S F Fd x hb hr nb nr m) {x0:SLC} {roots ys:List Nat} {d:Nat} {s':List Bool} {e:Int} (hs:Sli (zv .u32) w x0.1 x0.2.1 roots) (h32:∀ k∈roots,k<4294967296)
  (hrl:∀ a,x0.1=some a->a.block<w.heap.size) (hpg:∀ p∈S.sup.pages,p<S.N) (hyN:∀ y∈ys,y<S.N) (hyl:ys.length<=1000000000) (hv:Vis S.get d (List.replicate S.N false) roots ys s' e):
  Calls prog 91 #[.pointer (some ⟨b,0,none⟩),.slice x0.1 x0.2.1 x0.2.2] w (Ret fun v w'=>Ext w w'/\((e≠0/\v=.tuple #[.slice none 0 0,.int .i64 e])\/(e=0/\∃ A c,v=.tuple #[.slice A S.N c,.int .i64 0]/\Owni jC 3 w' w.heap.size A S.N c (uv S.N S.sup.pages ys)))):=by
 have hdim:=h.dims;have hN:=hdim.n;have hbl:=hdim.blocks;have hFlt:=h.lt;apply zpw;unfold S91;refine zd (by rfl) ?_;obtain⟨t,hbx⟩:=h.box;refine zr (qh 3 S.sup.blocks hbx (by rfl) (by rfl) ?_);rw[hbl];refine vG (kl:=.i64) (kc:=.i64) (B:=w.heap.size) (z:=.int .i64 0) (bytes:=8) zlr (by rfl) (Nat.le_refl _) (by omega) (by omega) ?_;intro w1 ho1 hg1;have he1:Ext w w1:=(Ext.refl w).grown hg1 (fun j hj=>by cases hj);have ho1:Owni jC 3 w1 w.heap.size (some ⟨w.heap.size,0,none⟩) S.N S.N (List.replicate S.N 0):=by
  have e:(List.replicate S.N (Value.int .i64 0))=jC.flat (List.replicate S.N 0):=by rw[zcV,List.map_replicate]
  rw[e]at ho1;exact ho1
 have hglt:=ho1.ye w.heap.size rfl;refine zq fun r4 w2 hb4 he2 hr4 hz4=>?_;refine zQ hb4 (by show 0<1;omega) ?_;have hb4':=hb4.set 0 (.slice (some ⟨w.heap.size,0,none⟩) S.N S.N);have he3:Ext w1 (w2.setCell ⟨r4,0,none⟩ (.slice (some ⟨w.heap.size,0,none⟩) S.N S.N)):=he2.set (by show w1.heap.size<=r4;omega) _;have hz3:(w2.setCell ⟨r4,0,none⟩ (.slice (some ⟨w.heap.size,0,none⟩) S.N S.N)).heap.size=r4+1:=by simp[hz4]
 generalize w2.setCell ⟨r4,0,none⟩ (.slice (some ⟨w.heap.size,0,none⟩) S.N S.N)=w3 at *;refine zq fun r5 w4 hb5 he4 hr5 hz5=>?_;refine zQ hb5 (by show 0<1;omega) ?_;have hb5':=hb5.set 0 (.int .i64 0);have he5:Ext w3 (w4.setCell ⟨r5,0,none⟩ (.int .i64 0)):=he4.set (by show w3.heap.size<=r5;omega) _;have hz5':(w4.setCell ⟨r5,0,none⟩ (.int .i64 0)).heap.size=r5+1:=by simp[hz5]
 generalize w4.setCell ⟨r5,0,none⟩ (.int .i64 0)=w5 at *;have he15:=he3.trans he5;have he05:=he1.trans he15;have hs1:=he1.size;refine zb (zkc (h.ext he05) (x0:=x0) (roots:=roots) (ys:=ys) (re:=r5) (hs.ext he05) h32 hb5' (N0:=w.heap.size) (by omega) hFlt hrl hv) ?_;rintro v w6 ⟨Q,R0,hit,hR0,hRx,hQl,hQ,he6⟩;refine⟨v,rfl,?_⟩;have he06:=he05.trans he6;have he16:=he15.trans he6;have h56:=he6.size;have hs16:=he16.size;have hb4'':=(hb4'.ext he5).ext he6;have ho6:=ho1.ext he16;refine zef (fun i=>(((ys.getD i 0:Nat):Int),())) ?_ (fun V i w'=>zeV b db S F Fd x hb hr nb nr m x0 roots w'/\Blk w' r4 [.slice (some ⟨w.heap.size,0,none⟩) S.N S.N] 150/\Owni jC 3 w' w.heap.size (some ⟨w.heap.size,0,none⟩) S.N S.N (vm S.N (ys.take i))/\Ext w w'/\(∀ k,V k->w.heap.size<=k/\k≠r4/\k≠w.heap.size)/\w6.heap.size<=w'.heap.size) (fun _ _ _=>False)
  hit hQl ?_ ?_ ?_ ?_ ?_ ?_ ?_ ?_ ?_ ?_
 ·intro i hi;have hi':i<ys.length:=by simpa [nums] using hi
  simp[nums,hi']
 ·rintro w' w'' hsb ⟨g1,g2⟩;have hlt:∀ k,k<w.heap.size->k≠w6.heap.size/\k≠w6.heap.size+1:=fun k hk=>by have:=he06.size;omega
  refine⟨g1.qd hsb (fun hf=>(hlt _ (hFlt _ hf)).1 rfl) (fun hf=>(hlt _ (hFlt _ hf)).2 rfl),g2.congr (fun a ha=>hsb.2.2.2.2 _ (hlt _ (hrl a ha)).1 (hlt _ (hrl a ha)).2)⟩
 ·intro w' w'' hsb hE;exact hsb.blk hE (by omega)
 ·intro V i w' hI;exact hI.1
 ·rintro V V' i w' w'' ⟨g1,g2,g3,g4,g5,g6⟩ hO hV hR;have hx:∀ k,k<w6.heap.size->¬V k->¬(V k\/k=w6.heap.size\/k=w6.heap.size+1):=fun k h1 h2 hh=>by
   rcases hh with hh|hh|hh
   ·exact h2 hh
   ·omega
   ·omega
  refine⟨hR,g2.only hO (hx r4 (by omega) (fun hh=>(g5 _ hh).2.1 rfl)),g3.only hO (fun j hj=>(show w.heap.size=j from Option.some.inj hj)▸hx w.heap.size (by omega) (fun hh=>(g5 _ hh).2.2 rfl)),?_,fun k hk=>?_,?_⟩
  ·refine Only.ext g4 hO (fun j hj=>?_);rcases hj with hj|rfl|rfl
   ·exact(g5 j hj).1
   ·omega
   ·omega
  ·rcases hV k hk with e|e
   ·exact g5 k e
   ·omega
  ·have:=hO.2.2.2.1;omega
 ·intro V V' c w' w'' hD;exact hD.elim
 ·intro o;have hx:Ext w6 ((w6.alloc (.deferred (some []))).alloc o):=((Ext.refl w6).alloc _).alloc _;refine⟨⟨(h.ext he06).ext hx,(hs.ext he06).ext hx⟩,hb4''.ext hx,ho6.ext hx,he06.trans hx,fun k hk=>?_,hx.size⟩;rcases hQ k hk with rfl|e
  ·omega
  ·omega
 ·intro o;exact hRx _ _ hR0 (((Ext.refl w6).alloc _).alloc _)
 ·rintro V i hi w' G N jump hI hsz hV _ hG;have hi':i<ys.length:=by simpa [nums] using hi
  have ei:ys[i]?=some (ys.getD i 0):=by rw[getD_eq_getElem?_getD,List.getElem?_eq_getElem hi'];rfl
  have hyi:=hyN _ (mem_of_getElem? ei);refine hG _ w' hI (Nat.le_refl _) (fun _ _=>rfl) ?_;rintro w2' ⟨g1,g2,g3,g4,g5,g6⟩ hs2 hk2 _ hN' hJ';refine zl (l:=.slc) (x:=((some ⟨w.heap.size,0,none⟩:Option Addr),S.N,S.N)) g2 (by rfl) ?_;dsimp only;refine zfo g3.sl (by omega) (by omega) ?_;have hcb:=zkd S.N (ys.take i) (ys.getD i 0);have htl:(ys.take i).length<=1000000000:=by rw[length_take];omega
  refine zbR (i:=((ys.getD i 0:Nat):Int)) g3 (by omega) (by omega) ?_;intro w3' ho3 hg3;rw[Int.toNat_natCast,wrap_i64 (by omega) (by omega)]at ho3;have hgo:∀ k,k≠w.heap.size->w3'.heap[k]?=w2'.heap[k]?\/True:=fun _ _=>.inr trivial;have ocl:Only (fun k=>k=w.heap.size) w2' w3':=Only.z7 hg3 (fun j hj=>.inl (by injection hj with hj;exact hj.symm));have hR3:zeV b db S F Fd x hb hr nb nr m x0 roots w3':=⟨g1.1.only ocl (fun j hj e=>by have:=hFlt j hj;have:j=w.heap.size:=e;omega),g1.2.only ocl (fun a ha e=>by have:=hrl a ha;have:a.block=w.heap.size:=e;omega)⟩;have hs3:=hg3.size;refine hN' w3' hR3 ⟨hR3,g2.only ocl (by show ¬r4=w.heap.size;omega),?_,Only.ext g4 ocl (fun j hj=>by have:j=w.heap.size:=hj;omega),g5,by omega⟩ hs3 (fun k hk=>?_)
  ·rw[zls ei];exact ho3
  ·have hlt:k<w2'.heap.size/\k≠w.heap.size:=by
    rcases hk with rfl|rfl|hk
    ·omega
    ·omega
    ·exact⟨by have:=(hV k hk).1;omega,(g5 k hk).2.2⟩
   exact ocl.2.2.2.2 k hlt.1 (fun e=>hlt.2 e)
 ·rintro V w' ⟨g1,g2,g3,g4,g5,g6⟩ hE hsz hdf;rw[qG];have hnl:(nums ys).length=ys.length:=by simp[nums]
  rw[hnl,List.take_length]at g3;refine zl (x:=e) hE (by rfl) ?_;have fin:∀ {w2:World} {K:WP},Ext w w2->w6.heap.size<=w2.heap.size->w2.heap[w6.heap.size]?=some (.deferred (some []))->(∀ w3,Ext w w3->yN w6.heap.size (w6.heap.size+1) w2 w3->K w3)->zO prog (⟨.collected w6.heap.size,#[]⟩::[]) K w2:=by
   intro w2 K hx hs hdf hK;refine jg hdf (hK _ ?_ (z8 (.inl rfl)));have hsb:=z8 (a:=w6.heap.size) (b:=w6.heap.size+1) (w:=w2) (o:=.deferred none) (.inl rfl);exact hsb.ext hx he06.size
  refine zg (fun hq=>?_) (fun hq=>?_)
  ·have hq:=bne_iff_ne.1 hq;refine zK fun w2 he2 hs2 hk2=>?_;refine zl (x:=e) (hE.ext he2) (by rfl) ?_;refine fin (g4.trans he2) (by omega) (by rw[hk2];exact hdf) (fun w3 hx3 _=>?_);exact⟨hx3,.inl ⟨hq,rfl⟩⟩
  have hq:=bne_eq_false_iff_eq.1 hq;refine zK fun w2 he2 hs2 hk2=>?_;have g2':=g2.ext he2;have g3':=g3.ext he2;have g4':=g4.trans he2;refine zl (l:=.slc) (x:=((some ⟨w.heap.size,0,none⟩:Option Addr),S.N,S.N)) g2' (by rfl) ?_;refine zl (l:=.slc) (x:=((some ⟨w.heap.size,0,none⟩:Option Addr),S.N,S.N)) g2' (by rfl) ?_;dsimp only;refine zbR (i:=0) g3' (by omega) (by omega) ?_;intro w7 ho7 hg7;have ocl:∀ {wa wb:World},wa.grownBy wb (orow (some ⟨w.heap.size,0,none⟩))->Only (fun k=>k=w.heap.size) wa wb:=fun hg=>Only.z7 hg (fun j hj=>.inl (by injection hj with hj;exact hj.symm));have o7:=ocl hg7;have g27:=g2'.only o7 (by show ¬r4=w.heap.size;omega);refine⟨fun l hl p hp=>?_,?_⟩
  ·simp only [mem_singleton]at hl;subst hl;simp only [mem_singleton]at hp;subst hp;exact(g27.cell 0).trans rfl
  refine zbR (i:=1) ho7 (by omega) (by omega) ?_;intro w8 ho8 hg8;have o8:=ocl hg8;have o28:Only (fun k=>k=w.heap.size) w2 w8:=Only.trans o7 o8 (fun j hj=>.inl hj);have hS8:=(g1.1.ext he2).only o28 (fun j hj e=>by have:=hFlt j hj;have:j=w.heap.size:=e;omega);obtain⟨t8,hbx8⟩:=hS8.box;refine zr (qh (l:=.slc) 5 x hbx8 (by rfl) (by rfl) ?_);have hpl:=h.pgs.len;have hple:=h.pgs.sl.le;have hsz2:w6.heap.size+2<=w2.heap.size:=by omega
  refine zw (fun y w'=>∃ i:Nat,i<=x.2.1/\y=((i:Int),())/\Only (fun k=>k=w.heap.size) w2 w'/\Owni jC 3 w' w.heap.size (some ⟨w.heap.size,0,none⟩) S.N S.N (vU (((vm S.N ys).set 0 1).set 1 1) (S.sup.pages.take i))) (fun y=>(x.2.1-y.1).toNat) ⟨0,by omega,rfl,o28,ho8⟩ ?_;rintro _ w9 ⟨i,hi,rfl,o9,ho9⟩;dsimp only;have hS9:=(g1.1.ext he2).only o9 (fun j hj e=>by have:=hFlt j hj;have:j=w.heap.size:=e;omega);have g29:=g2'.only o9 (by show ¬r4=w.heap.size;omega)
  by_cases hlt:i<x.2.1
  ·refine zf (decide_eq_true (by omega)) ?_;refine z6 hS9.pgs.sl (by omega) (by omega) ?_;rw[Int.toNat_natCast];have ep:S.sup.pages[i]?=some (S.sup.pages.getD i 0):=by rw[getD_eq_getElem?_getD,List.getElem?_eq_getElem (by omega)];rfl
   have hp:=hpg _ (mem_of_getElem? ep);refine zl (l:=.slc) (x:=((some ⟨w.heap.size,0,none⟩:Option Addr),S.N,S.N)) g29 (by rfl) ?_;dsimp only;refine zbR ho9 (by omega) (by omega) ?_;intro w10 ho10 hg10;rw[Int.toNat_natCast]at ho10;have e1:vU (((vm S.N ys).set 0 1).set 1 1) (S.sup.pages.take (i+1))=(vU (((vm S.N ys).set 0 1).set 1 1) (S.sup.pages.take i)).set (S.sup.pages.getD i 0) 1:=by
    unfold vU;rw[take_add_one,ep,List.foldl_append];rfl
   refine⟨⟨i+1,by omega,by rw[wrap_i64 (by omega) (by omega)];rfl,Only.trans o9 (ocl hg10) (fun j hj=>.inl hj),by rw[e1];exact ho10⟩,by rw[wrap_i64 (by omega) (by omega)];omega⟩
  ·obtain rfl:i=x.2.1:=by omega
   refine zd (decide_eq_false (by omega)) ?_;rw[take_of_length_le (by omega)]at ho9;refine zl (l:=.slc) (x:=((some ⟨w.heap.size,0,none⟩:Option Addr),S.N,S.N)) g29 (by rfl) ?_;refine fin (Only.ext g4' o9 (fun j hj=>by have:j=w.heap.size:=hj;omega)) (by have:=o9.2.2.2.1;omega) ?_ (fun w10 hx10 hsb=>?_)
   ·rw[o9.2.2.2.2 _ (by omega) (by omega),hk2];exact hdf
   ·refine⟨hx10,.inr ⟨hq,some ⟨w.heap.size,0,none⟩,S.N,rfl,?_⟩⟩;exact ho9.only (F:=fun k=>k=w6.heap.size\/k=w6.heap.size+1) ⟨hsb.1,hsb.2.1,hsb.2.2.1,Nat.le_of_eq hsb.2.2.2.1.symm,fun k _ hk=>hsb.2.2.2.2 k (fun e=>hk (.inl e)) (fun e=>hk (.inr e))⟩ (fun j hj e=>by have hj':w.heap.size=j:=Option.some.inj hj;have:=he06.size;have e:j=w6.heap.size\/j=w6.heap.size+1:=e;omega)
 ·intro V c w' hD;exact hD.elim
end V
/- Contracts of the package space:Audit. -/
namespace V
open Go Go.Proofs Go.RowKit Crc
variable {w w':World} {b db:Nat} {S:Spa} {F Fd:Nat->Prop} {x:SLC} {hb hr nb nr:Nat} {m:MkL}
theorem ziH {A A2:Option Addr} {n c n2 c2:Nat} {xs ys:List Int} (h:Sli jC w A n xs) (h2:Sli jC w A2 n2 ys):
  Calls prog 92 #[.slice A n c,.slice A2 n2 c2] w (Ret fun v w'=>v=.bool (decide (xs=ys))/\Ext w w'):=by
 apply zpx;unfold S92;have hl:=h.len;have hl2:=h2.len;have hle:=h.le;refine zg (fun hq=>?_) (fun hq=>?_)
 ·have hq:=bne_iff_ne.1 hq;refine⟨?_,Ext.refl w⟩;rw[decide_eq_false (fun e=>hq (by rw[<- hl,<- hl2,e]))]
 have hq:=bne_eq_false_iff_eq.1 hq;refine zw (fun y w'=>∃ i:Nat,i<=n/\y=((i:Int),())/\Ext w w'/\∀ k,k<i->xs[k]?=ys[k]?) (fun y=>(n-y.1).toNat) ⟨0,by omega,rfl,Ext.refl w,fun k hk=>by omega⟩ ?_;rintro _ w1 ⟨i,hi,rfl,he,hall⟩;dsimp only
 by_cases hlt:i<n
 ·refine zf (decide_eq_true (by omega)) ?_;refine zK fun w2 he2 _ _=>?_;have he:=he.trans he2;refine zfo (h.ext he) (by omega) (by omega) ?_;refine zfo (h2.ext he) (by omega) (by omega) ?_;rw[Int.toNat_natCast];have e1:xs[i]?=some (xs.getD i 0):=by rw[getD_eq_getElem?_getD,List.getElem?_eq_getElem (by omega)];rfl
  have e2:ys[i]?=some (ys.getD i 0):=by rw[getD_eq_getElem?_getD,List.getElem?_eq_getElem (by omega)];rfl
  refine zg (fun hz=>?_) (fun hz=>?_)
  ·have hz:=bne_iff_ne.1 hz;refine⟨?_,he⟩;rw[decide_eq_false (fun e=>hz (by rw[e]))]
  ·have hz:=bne_eq_false_iff_eq.1 hz;refine⟨⟨i+1,by omega,by rw[wrap_i64 (by omega) (by omega)];rfl,he,fun k hk=>?_⟩,by rw[wrap_i64 (by omega) (by omega)];omega⟩
   by_cases hki:k=i
   ·subst hki;rw[e1,e2,hz]
   ·exact hall k (by omega)
 ·obtain rfl:i=n:=by omega
  refine zd (decide_eq_false (by omega)) ⟨?_,he⟩;rw[decide_eq_true];apply List.ext_getElem?;intro k
  by_cases hk:k<i
  ·exact hall k hk
  ·rw[List.getElem?_eq_none (by omega),List.getElem?_eq_none (by omega)]
theorem zdG (h:SpM w b db S F Fd x hb hr nb nr m) {x0:SLC} {roots ys:List Nat} {d:Nat} {s':List Bool} {e:Int} (hs:Sli (zv .u32) w x0.1 x0.2.1 roots) (h32:∀ k∈roots,k<4294967296)
  (hrl:∀ a,x0.1=some a->a.block<w.heap.size) (hpg:∀ p∈S.sup.pages,p<S.N) (hyN:∀ y∈ys,y<S.N) (hyl:ys.length<=1000000000) (hv:Vis S.get d (List.replicate S.N false) roots ys s' e):
  Calls prog 32 #[.pointer (some ⟨b,0,none⟩),.slice x0.1 x0.2.1 x0.2.2] w (Ret fun v w'=>v=.int .i64 (if e≠0 then e else if uv S.N S.sup.pages ys=zad S.now then 0 else 8)/\Ext w w'):=by
 apply zoO;unfold S32;refine zb (zke h hs h32 hrl hpg hyN hyl hv) ?_;rintro _ w1 ⟨he1,⟨hne,rfl⟩|⟨rfl,A,c,rfl,ho⟩⟩
 ·refine⟨((none,0,0),e,()),rfl,zf (bne_iff_ne.2 hne) ?_⟩;rw[if_pos hne];exact⟨rfl,he1⟩
 refine⟨((A,S.N,c),0,()),rfl,zd (by rfl) ?_⟩;rw[if_neg (by simp)];have hS:=h.ext he1;obtain⟨t,hbx⟩:=hS.box;refine zr (qh (l:=.ptr) 8 (some ⟨nb,0,none⟩) hbx (by rfl) (by rfl) ?_);obtain⟨q,hc⟩:=hS.nowC;refine zb (zle hc) ?_;rintro _ w2 ⟨y,rfl,ho2,he2⟩;refine⟨y,rfl,?_⟩;refine zb (ziH (c:=c) (c2:=y.2.2) (ho.sl.ext he2) ho2.sl) ?_;rintro _ w3 ⟨rfl,he3⟩;refine⟨_,rfl,?_⟩;have he:=(he1.trans he2).trans he3;refine zg (fun hz=>?_) (fun hz=>?_)
 ·rw[if_neg (by intro e;rw[decide_eq_true e]at hz;cases hz)];exact⟨rfl,he⟩
 ·rw[if_pos (by
   by_cases e:uv S.N S.sup.pages ys=zad S.now
   ·exact e
   ·rw[decide_eq_false e]at hz;cases hz)]
  exact⟨rfl,he⟩
end V
/- Spaces that are well:what Put,Get,Drop,Audit come to. -/
namespace V
open Go Go.Proofs Go.RowKit Crc
structure Good (S:Spa) (R:List Nat):Prop where
 ok:S.Ok
 dev:S.dev.Ok
 fuse:S.dev.fuse=-1
 gen:S.sup.gen<1000000000000
 well:yf S.N S.sup.pages S.page S.now R
theorem Good.dims {S:Spa} {R:List Nat} (h:Good S R):zae S:=by
 have hg:=h.dev.geo;rw[<- h.ok.size,<- h.ok.blocks]at hg;obtain⟨g1,g2,g3,g4,g5⟩:=qg hg;have:S.sup.blocks=(S.N:Int):=by unfold Spa.N;omega
 exact⟨hg,g1,⟨g2,g3⟩,this,by omega⟩
theorem Good.h01 {S:Spa} {R:List Nat} (h:Good S R):S.now.getD 0 0≠0/\S.now.getD 1 0≠0:=by
 have:=h.well.head;omega
theorem Good.perm {S:Spa} {R R':List Nat} (h:Good S R) (hp:R.Perm R'):Good S R':=⟨h.ok,h.dev,h.fuse,h.gen,h.well.perm hp⟩
theorem ql {S:Spa} {R:List Nat} (h:Good S R) {n:Nat} (hn:zE S.sup.pages S.now n=true):S.asked n=true/\S.now.getD n 0≠0/\n<S.N:=by
 obtain⟨h1,h2,h3⟩:=zA.1 hn;have:=h.well.lt hn;exact⟨kW.2 ⟨h1,this,h2⟩,by omega,this⟩
theorem Good.get {S:Spa} {R:List Nat} (h:Good S R) {n:Nat} (hn:zE S.sup.pages S.now n=true):S.get n=S.page n/\(S.page n).2=0:=by
 obtain⟨h1,h2,h3⟩:=ql h hn;refine⟨?_,(h.well.good n hn).1⟩;unfold Spa.get;rw[if_neg (by rw[h1];simp),if_neg h2]
theorem x6 {d:Dev} (h:d.Ok) {k j:Int} {s:ByteArray} (hk:0<=k/\k<d.blocks) (hs:(s.size:Int)=d.size) (hf:d.fuse≠0) (hj:0<=j/\j<d.blocks):
  (d.write k s).2=0/\((d.write k s).1.read j).1=if j=k then s else (d.read j).1:=by
 unfold Dev.write;rw[if_neg (by rintro(e|e);exact e hk;exact e hs),if_neg hf];refine⟨rfl,?_⟩;unfold Dev.read;dsimp only;rw[if_neg (show ¬ ¬(0<=j/\j<d.burnt.blocks) from fun e=>e hj),if_neg (show ¬ ¬(0<=j/\j<d.blocks) from fun e=>e hj)];dsimp only;rw[List.foldl_append];show((List.foldl Go.Proofs.YtplgodmmmppmeaaGreat.V.put d.dur d.pen).set k.toNat s).getD j.toNat ByteArray.empty=_;rw[getD_set];have hl:=zaa d.pen d.dur;have hlen:=h.len
 by_cases e:j=k
 ·subst e;rw[if_pos ⟨rfl,by rw[hl];omega⟩,if_pos rfl]
 ·rw[if_neg (fun e'=>e (by omega)),if_neg e]
theorem vL {d:Dev} (h:d.Ok) {k:Int} {s:ByteArray} (hk:0<=k/\k<d.blocks) (hs:(s.size:Int)=d.size) (hf:d.fuse=-1):(d.write k s).1.Ok/\(d.write k s).1.fuse=-1/\(d.write k s).1.pen.length=d.pen.length+1:=by
 unfold Dev.write;rw[if_neg (by rintro(e|e);exact e hk;exact e hs),if_neg (by omega)];have hb:=h.burnt;refine⟨⟨h.geo,h.len,h.each,fun p hp=>?_,hb.fuse⟩,?_,by simp⟩
 ·rcases mem_append.1 hp with hp|hp
  ·exact h.pend p hp
  ·rw[mem_singleton.1 hp];exact⟨hk.1,hk.2,hs⟩
 ·show max (-1) (d.fuse-1)=-1;rw[hf];decide
theorem zf7 (S:Spa):∀ n,(∀ j,j<n->¬((decide (2<=j)&&S.yv j)=true))->js S n=[]
 |0,_=>rfl
 |n+1,h=>by
  rw[qM,if_neg (h n (by omega)),zf7 S n (fun j hj=>h j (by omega))]
theorem ub {S:Spa} {n:Nat}:n∈S.yg↔n<S.N/\2<=n/\S.yv n=true:=by
 unfold Spa.yg;rw[List.mem_filter,mem_range,Bool.and_eq_true,decide_eq_true_iff]
theorem zkf {S:Spa} {R:List Nat} (h:Good S R) (hf:0<S.zY):S.zH<S.N/\2<=S.zH/\S.yv S.zH=true/\(∀ j,j<S.zH->S.yv j=false)/\S.zH∉S.sup.pages:=by
 have hnow:=h.ok.now;obtain⟨n,hn⟩:∃ n,n∈S.yg:=by
  unfold Spa.zY at hf;cases hq:S.yg with
  |nil=>rw[hq]at hf;simp at hf
  |cons a r=>exact⟨a,mem_cons_self⟩
 obtain⟨h1,h2,h3⟩:=ub.1 hn;have hlt:S.zH<(List.range S.now.length).length:=List.findIdx_lt_length_of_exists ⟨n,mem_range.2 (by omega),h3⟩;rw[length_range]at hlt;have hfr:S.yv S.zH=true:=by
  have:=List.findIdx_getElem (p:=S.yv) (xs:=List.range S.now.length) (w:=by rw[length_range];exact hlt);rw[getElem_range]at this;exact this
 obtain⟨f1,f2,f3⟩:=zS.1 hfr;have hhd:=h.well.head;refine⟨by omega,?_,hfr,fun j hj=>?_,fun hp=>?_⟩
 ·rcases Nat.lt_or_ge S.zH 2 with hh|hh
  ·have:S.zH=0\/S.zH=1:=by omega
   rcases this with e|e<;>rw[e]at f1<;>omega
  ·exact hh
 ·have:=List.not_of_lt_findIdx (p:=S.yv) (xs:=List.range S.now.length) (i:=j) hj;rw[getElem_range]at this
  simpa using this
 ·have:=(h.well.pgs _ hp).2.2;omega
structure vn (S S':Spa) (p:Page) (n:Nat):Prop where
 two:2<=n
 lt:n<S.N
 pgs:n∉S.sup.pages
 free:S.yv n=true
 now:S'.now=S.now.set n 1
 sup:S'.sup=S.sup
 held:S'.held=S.held
 mark:S'.mark=S.mark
 slot:S'.slot=S.slot
 page:S'.page n=(p,0)
 other:∀ k,k≠n->k<S.N->S'.page k=S.page k
 pen:S'.dev.pen.length=S.dev.pen.length+1
 yg:S.yg=n::S'.yg
 read:∀ k:Int,0<=k->k<S.N->k≠n->(S'.dev.read k).1=(S.dev.read k).1
 dim:S'.dev.size=S.dev.size/\S'.dev.blocks=S.dev.blocks
theorem zkg {S S':Spa} {n:Nat} (hn:n<S.N) (h2:2<=n) (hf:S.yv n=true) (hno:∀ j,j<n->S.yv j=false) (hN:S'.N=S.N) (hf':∀ j,j<S.N->S'.yv j=if j=n then false else S.yv j):S.yg=n::S'.yg:=by
 have key:∀ k,k<=S.N->js S k=if n<k then n::js S' k else js S' k:=by
  intro k
  induction k with
  |zero=>intro _;rw[if_neg (by omega)];rfl
  |succ k ih=>
   intro hk;have ih:=ih (by omega);rw[qM,qM,hf' k (by omega)]
   by_cases hkn:k=n
   ·subst hkn;have hA:(decide (2<=k)&&S.yv k)=true:=by rw[hf,decide_eq_true h2];rfl
    have e1:js S k=[]:=zf7 S k (fun j hj hh=>by rw[hno j hj]at hh;simp at hh);rw[if_neg (by omega)]at ih;rw[if_pos hA,if_pos (Nat.lt_succ_self k),if_pos rfl,Bool.and_false,if_neg (by simp),<- ih,e1];rfl
   ·rw[if_neg hkn]
    by_cases hlt:n<k
    ·rw[if_pos hlt]at ih;rw[if_pos (by omega:n<k+1),ih];split<;>simp
    ·rw[if_neg hlt]at ih;rw[if_neg (by omega:¬n<k+1),ih]
 have h1:=key S.N (Nat.le_refl _);rw[if_pos hn]at h1;have e2:js S' S.N=S'.yg:=by unfold js Spa.yg;rw[hN]
 rw[e2]at h1;exact h1
theorem zeg {S:Spa} {R:List Nat} {p:Page} (h:Good S (p.2.1++R)) (ht:3<=p.1.toNat) (hk:(p.2.1.length:Int)<=S.room 0 / 4) (hd:(p.2.2.size:Int)<=S.room p.2.1.length) (hfree:S.sup.pages.length<S.zY):
  (S.put p).2.2=0/\vn S (S.put p).1 p (S.put p).2.1/\Good (S.put p).1 ((S.put p).2.1::R):=by
 have hdim:=h.dims;have hN:=hdim.n;have hsz:=hdim.size;have hroom:=hdim.room;have hr0:S.room 0=S.sup.size-18:=by unfold Spa.room;rw[hroom,if_neg (by omega)];omega
 have hrk:S.room p.2.1.length=S.sup.size-18-4*p.2.1.length:=by unfold Spa.room;rw[hroom,if_neg (by omega)];omega
 obtain⟨t1,t2,t3,t4,t5⟩:=zkf h (by omega);obtain⟨f1,f2,f3⟩:=zS.1 t3;have hnow:=h.ok.now;have eN:S.takeN=S.zH:=by unfold Spa.takeN;rw[if_pos (by omega)]
 have eE:S.yU=0:=by unfold Spa.yU;rw[if_pos (by omega)]
 have eL:S.yV=S.now.set S.zH 1:=by unfold Spa.yV;rw[if_pos (by omega)]
 have hku:∀ k∈p.2.1,zE S.sup.pages S.now k=true:=fun k hk=>h.well.root k (mem_append_left _ hk);have hE0:S.jS p=0:=by
  unfold Spa.jS;rw[if_neg,if_neg,if_neg,if_neg]
  ·omega
  ·rintro(e|e)<;>omega
  ·rintro⟨k,hk,e⟩;exact(ql h (hku k hk)).2.1 e
  ·rintro(e|e|⟨k,hk,e⟩)
   ·omega
   ·omega
   ·rw[(ql h (hku k hk)).1]at e;cases e
 have hpl:(pgB p).length=2+(4*p.2.1.length+p.2.2.size):=by simp[pgB,zx,xw,yi]
 have hdz:=h.ok.size;have hdb:=h.ok.blocks;have hbl:=hdim.blocks;obtain⟨z,hz⟩:∃ z:Nat,S.sup.size=(z:Int):=⟨S.sup.size.toNat,by omega⟩;have hfit:(pgB p).length+16<=z:=by omega
 have hBp:(B (mkB (pgB p))).length=(pgB p).length:=by rw[xv]
 have hputR:xy S.dev.size (S.frame p)=(yF z (S.frame p),0):=by
  unfold xy;rw[<- hdz,if_neg (by rw[hroom];omega)];rw[if_neg (by show ¬(((B (mkB (pgB p))).length:Int)>_);rw[hBp,hroom];omega),hz];rfl
 have hbl2:(yF z (S.frame p)).length=z:=ku (by show(B (mkB (pgB p))).length+16<=z;rw[hBp];exact hfit);have hws:(((mkB (yF z (S.frame p))).size:Nat):Int)=S.dev.size:=by rw[xz,hbl2,<- hz,hdz]
 have hwf:yp S.dev S.zH (S.frame p)=S.dev.write S.zH (mkB (yF z (S.frame p))):=by
  unfold yp;rw[hputR,if_neg (by simp)]
 have hk2:0<=(S.zH:Int)/\(S.zH:Int)<S.dev.blocks:=by omega
 have hfz:=h.fuse;obtain⟨q1,q2,q3⟩:=vL h.dev hk2 hws hfz;have hwe:(S.dev.write S.zH (mkB (yF z (S.frame p)))).2=0:=(x6 h.dev hk2 hws (by omega) hk2).1;have eput:S.put p=({ S with now:=S.now.set S.zH 1,dev:=(S.dev.write S.zH (mkB (yF z (S.frame p)))).1 },S.zH,0):=by
  unfold Spa.put;rw[if_neg (by rw[hE0];simp),if_neg (by rw[eE];simp),eN,eL,hwf,if_neg (by rw[hwe];simp)]
 rw[eput];dsimp only;have hpg:∀ k,k<S.N->Spa.page { S with now:=S.now.set S.zH 1,dev:=(S.dev.write S.zH (mkB (yF z (S.frame p)))).1 } k=if k=S.zH then (p,0) else S.page k:=by
  intro k hkN;unfold Spa.page;dsimp only;have hrw:=(x6 h.dev hk2 hws (by omega) (j:=(k:Int)) (by omega)).2;show xW S.N (B ((S.dev.write S.zH (mkB (yF z (S.frame p)))).1.read k).1)=_;rw[hrw]
  by_cases e:k=S.zH
  ·subst e;rw[if_pos rfl,if_pos rfl,xv];have hg:=h.gen;refine zjX (by rw[<- hz];exact hroom) (by omega) (by omega) hfit (by omega) ht (fun n hn=>?_) hN.2;obtain⟨a1,a2,a3⟩:=zA.1 (hku n hn);exact⟨a1,h.well.lt (hku n hn)⟩
  ·rw[if_neg (by omega),if_neg e]
 have hdim2:=jU S.dev S.zH (mkB (yF z (S.frame p)));have hwell:yf S.N S.sup.pages (Spa.page { S with now:=S.now.set S.zH 1,dev:=(S.dev.write S.zH (mkB (yF z (S.frame p)))).1 }) (S.now.set S.zH 1) (S.zH::R):=by
  refine yf.put (ks:=p.2.1) h.well t2 t1 t5 f1 ?_ ?_ (fun k hk hkN=>?_)
  ·rw[hpg _ t1,if_pos rfl]
  ·unfold zU;rw[hpg _ t1,if_pos rfl]
  ·rw[hpg k hkN,if_neg hk]
 refine⟨rfl,⟨t2,t1,t5,t3,rfl,rfl,rfl,rfl,rfl,by rw[hpg _ t1,if_pos rfl],fun k hk hkN=>by rw[hpg k hkN,if_neg hk],q3,?_,fun k h0 hkN hne=>by
  show((S.dev.write S.zH (mkB (yF z (S.frame p)))).1.read k).1=_
  rw[(x6 h.dev hk2 hws (by omega) (j:=k) (by omega)).2,if_neg hne],⟨hdim2.1,hdim2.2.1⟩⟩,⟨⟨?_,?_,h.ok.fits,h.ok.held,?_,h.ok.mark⟩,q1,q2,h.gen,hwell⟩⟩
 ·refine zkg t1 t2 t3 t4 rfl (fun j hj=>?_);rw[Bool.eq_iff_iff,zS];dsimp only;rw[ym]
  by_cases e:j=S.zH
  ·subst e;rw[if_pos ⟨rfl,by omega⟩,if_pos rfl];simp
  ·rw[if_neg (fun e'=>e e'.1.symm),if_neg e,zS]
 ·exact hdz.trans hdim2.1.symm
 ·exact hdb.trans hdim2.2.1.symm
 ·show(S.now.set S.zH 1).length=_;rw[length_set];exact hnow
end V
/- Spaces that are well:Share,Drop,Audit. -/
namespace V
open Go Go.Proofs Go.RowKit Crc
theorem Good.kz {S:Spa} {R R':List Nat} {c:List Nat} (h:Good S R) (hl:c.length=S.now.length) (hw:yf S.N S.sup.pages S.page c R'):Good { S with now:=c } R':=
 ⟨⟨h.ok.size,h.ok.blocks,h.ok.fits,h.ok.held,hl.trans h.ok.now,h.ok.mark⟩,h.dev,h.fuse,h.gen,hw⟩
theorem zkh {S:Spa} {R:List Nat} {n:Nat} (h:Good S R) (hn:zE S.sup.pages S.now n=true) (h6:S.now.getD n 0<65535):(S.share n).2=0/\Good (S.share n).1 (n::R)/\(S.share n).1={ S with now:=S.now.set n (S.now.getD n 0+1) }:=by
 obtain⟨h1,h2,h3⟩:=ql h hn;have ha:=zbP h.well hn;have e1:zab S.now n=0:=by unfold zab;rw[if_pos ha,if_neg (by omega)]
 have e2:zac S.now n=S.now.set n (S.now.getD n 0+1):=by unfold zac;rw[if_pos e1]
 unfold Spa.share;rw[if_neg (by rw[h1];simp),e1,e2];exact⟨rfl,h.kz (by simp) (h.well.share hn),rfl⟩
theorem zlt {S:Spa} {R:List Nat} {n:Nat} (h:Good S (n::R)):∃ c',Drp S.asked S.page S.now [n] c' 0/\Good { S with now:=c' } R/\c'.length=S.now.length/\∀ k,c'.getD k 0<=S.now.getD k 0:=by
 obtain⟨c',h1,h2,h3,h4⟩:=yf.drop (N:=S.N) (ps:=S.sup.pages) (pg:=S.page) (ask:=S.asked) (fun n a1 a2 a3=>kW.2 ⟨a1,a2,a3⟩) S.now.sum [n] (Nat.le_refl _) (R:=R) h.well;exact⟨c',h1,h.kz h3 h2,h3,h4⟩
def jV (N:Nat) (s s':List Bool) (pg:PgF) (x m:Nat):Nat:=if s'.getD m false=true/\s.getD m false=false then (zU pg m).count x else 0
theorem zf8 (l:List Bool) (i k:Nat) (x:Bool):(l.set i x).getD k false=if i=k/\k<l.length then x else l.getD k false:=by
 rw[getD_eq_getElem?_getD,getD_eq_getElem?_getD,List.getElem?_set]
 by_cases hik:i=k
 ·subst hik
  by_cases hk:i<l.length
  ·simp[hk]
  ·simp[hk]
 ·rw[if_neg hik,if_neg (fun h=>hik h.1)]
theorem sum_add {f g:Nat->Nat}:∀ N,((List.range N).map fun m=>f m+g m).sum=((List.range N).map f).sum+((List.range N).map g).sum
 |0=>rfl
 |N+1=>by
  have:=sum_add (f:=f) (g:=g) N;simp only [range_succ,map_append,map_cons,List.map_nil,List.sum_append,List.sum_cons,List.sum_nil];omega
theorem jm {f g:Nat->Nat} {N:Nat} (h:∀ m,m<N->f m=g m):((List.range N).map f).sum=((List.range N).map g).sum:=by
 congr 1;exact map_congr_left (fun m hm=>h m (mem_range.1 hm))
theorem jn:∀ N:Nat,((List.range N).map fun _=>0).sum=0
 |0=>rfl
 |N+1=>by
  rw[range_succ,map_append,List.sum_append,jn N];rfl
structure zqQ (N:Nat) (U:Nat->Bool) (pg:PgF) (s:List Bool) (l ys:List Nat) (s':List Bool):Prop where
 cnt:∀ x,ys.count x=l.count x+((List.range N).map (jV N s s' pg x)).sum
 sub:∀ m,s.getD m false=true->s'.getD m false=true
 all:∀ k∈l,s'.getD k false=true
 new:∀ m,s'.getD m false=true->s.getD m false=true\/(U m=true/\∀ k∈zU pg m,s'.getD k false=true)
 use:∀ y∈ys,U y=true
theorem zqx {N:Nat} {get pg:PgF} {U:Nat->Bool} {r:Nat->Nat} (hU:∀ n,U n=true->2<=n/\n<N/\get n=pg n/\(pg n).2=0/\∀ k∈zU pg n,U k=true/\r k<r n):
  ∀ (d:Nat) (l:List Nat) (s:List Bool),s.length=N->(∀ k∈l,U k=true/\r k<d)->∃ ys s',Vis get d s l ys s' 0/\zqQ N U pg s l ys s':=by
 intro d
 induction d with
 |zero=>
  intro l s hs hl;cases l with
  |nil=>exact⟨[],s,.nil 0 s,⟨fun x=>by rw[List.count_nil,Nat.zero_add];exact(by rw[jm (g:=fun _=>0) (fun m _=>by unfold jV;rw[if_neg (by rintro⟨a,c⟩;rw[a]at c;cases c)]),jn]),fun m h=>h,by simp,fun m h=>.inl h,by simp⟩⟩
  |cons a t=>have:=(hl a mem_cons_self).2;omega
 |succ d ihd=>
  intro l
  induction l with
  |nil=>
   intro s hs hl;exact⟨[],s,.nil _ s,⟨fun x=>by rw[List.count_nil,Nat.zero_add];exact(by rw[jm (g:=fun _=>0) (fun m _=>by unfold jV;rw[if_neg (by rintro⟨a,c⟩;rw[a]at c;cases c)]),jn]),fun m h=>h,by simp,fun m h=>.inl h,by simp⟩⟩
  |cons a t iht=>
   intro s hs hl;obtain⟨hUa,hra⟩:=hl a mem_cons_self;obtain⟨u1,u2,u3,u4,u5⟩:=hU a hUa;have hlt:∀ k∈t,U k=true/\r k<d+1:=fun k hk=>hl k (mem_cons_of_mem _ hk);have hk:zU get a=zU pg a:=by unfold zU;rw[u3]
   cases hsa:s.getD a false with
   |true=>
    obtain⟨ys,s',v1,v2⟩:=iht s hs hlt;refine⟨a::ys,s',.seen (by omega) (by rw[u3];exact u4) hsa v1,⟨fun x=>?_,v2.sub,fun k hk=>?_,v2.new,fun y hy=>?_⟩⟩
    ·rw[count_cons,count_cons,v2.cnt x];omega
    ·rcases mem_cons.1 hk with rfl|hk
     ·exact v2.sub _ hsa
     ·exact v2.all k hk
    ·rcases mem_cons.1 hy with rfl|hy
     ·exact hUa
     ·exact v2.use y hy
   |false=>
    obtain⟨ys1,s1,v1,v2⟩:=ihd (zU pg a) (s.set a true) (by simpa using hs) (fun k hk=>⟨(u5 k hk).1,by have:=(u5 k hk).2;omega⟩);have hs1:s1.length=N:=by rw[v1.len];simpa using hs
    obtain⟨ys2,s2,v3,v4⟩:=iht s1 hs1 hlt;have hsa1:(s.set a true).getD a false=true:=by rw[zf8,if_pos ⟨rfl,by omega⟩]
    have hs1a:s1.getD a false=true:=v2.sub _ hsa1;have hset:∀ m,m≠a->(s.set a true).getD m false=s.getD m false:=fun m hm=>by rw[zf8,if_neg (fun e=>hm e.1.symm)]
    refine⟨a::(ys1++ys2),s2,.new (by omega) (by rw[u3];exact u4) hsa (by rw[hk];exact v1) v3,⟨fun x=>?_,fun m hm=>?_,fun k hk=>?_,fun m hm=>?_,fun y hy=>?_⟩⟩
    ·rw[count_cons,List.count_append,v2.cnt x,v4.cnt x,count_cons];have e1:=zbf (f:=jV N (s.set a true) s1 pg x) (g:=fun m=>jV N s s1 pg x m) (n:=a) (N:=N) (fun m hm=>by unfold jV;rw[hset m hm]);rw[if_pos u2,if_pos u2]at e1;have e2:jV N (s.set a true) s1 pg x a=0:=by unfold jV;rw[if_neg (by rw[hsa1];simp)]
     have e3:jV N s s1 pg x a=(zU pg a).count x:=by unfold jV;rw[if_pos ⟨hs1a,hsa⟩]
     have e4:((List.range N).map (jV N s s2 pg x)).sum=((List.range N).map (jV N s s1 pg x)).sum+((List.range N).map (jV N s1 s2 pg x)).sum:=by
      rw[<- sum_add];refine jm (fun m _=>?_);unfold jV
      by_cases c0:s.getD m false=true
      ·have c1:s1.getD m false=true:=by
        by_cases hma:m=a
        ·subst hma;exact hs1a
        ·exact v2.sub m (by rw[hset m hma];exact c0)
       rw[c0,c1];simp
      ·have c0:s.getD m false=false:=by simpa using c0
       by_cases c1:s1.getD m false=true
       ·rw[c0,c1,v4.sub m c1];simp
       ·have c1:s1.getD m false=false:=by simpa using c1
        rw[c0,c1];simp
     simp only [e2,e3,Nat.add_zero]at e1;rw[e4];have e1':((List.range N).map (jV N s s1 pg x)).sum=((List.range N).map (jV N (s.set a true) s1 pg x)).sum+(zU pg a).count x:=e1;omega
    ·by_cases hma:m=a
     ·subst hma;exact v4.sub _ hs1a
     ·exact v4.sub _ (v2.sub m (by rw[hset m hma];exact hm))
    ·rcases mem_cons.1 hk with rfl|hk
     ·exact v4.sub _ hs1a
     ·exact v4.all k hk
    ·rcases v4.new m hm with h1|h1
     ·rcases v2.new m h1 with h2|h2
      ·by_cases hma:m=a
       ·subst hma;exact .inr ⟨hUa,fun k hk=>v4.sub _ (v2.all k hk)⟩
       ·rw[hset m hma]at h2;exact .inl h2
      ·exact .inr ⟨h2.1,fun k hk=>v4.sub _ (h2.2 k hk)⟩
     ·exact .inr h1
    ·rcases mem_cons.1 hy with rfl|hy
     ·exact hUa
     ·rcases mem_append.1 hy with hy|hy
      ·exact v2.use y hy
      ·exact v4.use y hy
theorem znQ (N:Nat) (ys:List Nat) (h:∀ y∈ys,y<N):∀ k,(vm N ys).getD k 0=if k<N then ((ys.count k:Nat):Int) else 0:=by
 have:∀ (ys:List Nat) (l:List Int),(∀ y∈ys,y<l.length)->∀ k,k<l.length->(ys.foldl vK l).getD k 0=l.getD k 0+((ys.count k:Nat):Int):=by
  intro ys
  induction ys with
  |nil=>intro l _ k _;simp
  |cons a t ih=>
   intro l hl k hk;rw[foldl_cons,ih (vK l a) (fun y hy=>by unfold vK;rw[length_set];exact hl y (mem_cons_of_mem _ hy)) k (by unfold vK;rw[length_set];exact hk)];have ha:=hl a mem_cons_self;rw[count_cons];unfold vK
   by_cases hak:a=k
   ·subst hak;simp[getD_eq_getElem?_getD,ha];omega
   ·rw[getD_eq_getElem?_getD,List.getElem?_set_ne hak,<- getD_eq_getElem?_getD,if_neg (by simpa using hak)];omega
 intro k
 by_cases hk:k<N
 ·rw[if_pos hk];have:=this ys (List.replicate N 0) (by simpa using h) k (by simpa using hk);unfold vm;rw[this];simp[getD_eq_getElem?_getD,hk]
 ·rw[if_neg hk,getD_eq_getElem?_getD,List.getElem?_eq_none (by rw[kB];omega)];rfl
theorem zf9:∀ (ps:List Nat) (l:List Int) (k:Nat),k<l.length->(vU l ps).getD k 0=if k∈ps then 1 else l.getD k 0
 |[],l,k,_=>by simp[vU]
 |p::r,l,k,hk=>by
  show(vU (l.set p 1) r).getD k 0=_;rw[zf9 r _ k (by rw[length_set];exact hk)]
  by_cases hr:k∈r
  ·rw[if_pos hr,if_pos (mem_cons_of_mem _ hr)]
  ·rw[if_neg hr]
   by_cases hpk:p=k
   ·subst hpk;rw[if_pos mem_cons_self];simp[getD_eq_getElem?_getD,hk]
   ·rw[if_neg (fun e=>by rcases mem_cons.1 e with e|e;exact hpk e.symm;exact hr e),getD_eq_getElem?_getD,List.getElem?_set_ne hpk,<- getD_eq_getElem?_getD]
theorem zcW:∀ (ps:List Nat) (l:List Int),(vU l ps).length=l.length
 |[],l=>rfl
 |p::r,l=>by show(vU (l.set p 1) r).length=_;rw[zcW r];simp
theorem zcX {N:Nat}:∀ ys:List Nat,(∀ y∈ys,y<N)->ys.length=((List.range N).map fun k=>ys.count k).sum
 |[],_=>by
  simp only [List.count_nil];rw[jn];rfl
 |a::t,h=>by
  have ih:=zcX t (fun y hy=>h y (mem_cons_of_mem _ hy));have ha:=h a mem_cons_self;have e1:=zbf (f:=fun k=>t.count k) (g:=fun k=>(a::t).count k) (n:=a) (N:=N) (fun m hm=>by rw[count_cons,if_neg (by simpa using fun e=>hm e.symm)];rfl);rw[if_pos ha,if_pos ha,List.count_cons_self]at e1;rw[length_cons];omega
theorem zji {f:Nat->Nat} {B:Nat}:∀ N,(∀ m,m<N->f m<=B)->((List.range N).map f).sum<=N*B
 |0,_=>by simp
 |N+1,h=>by
  have:=zji (f:=f) (B:=B) N (fun m hm=>h m (by omega));have:=h N (by omega);simp only [range_succ,map_append,map_cons,List.map_nil,List.sum_append,List.sum_cons,List.sum_nil];rw[Nat.add_mul];omega
theorem zeW {S:Spa} {R:List Nat} (h:Good S R) (hfit:∀ n,S.now.getD n 0<65536):∃ d ys s',Vis S.get d (List.replicate S.N false) R ys s' 0/\(∀ y∈ys,y<S.N)/\ys.length<=1000000000/\uv S.N S.sup.pages ys=zad S.now:=by
 have hN:=h.dims.n;have hnow:=h.ok.now;have hw:=h.well;obtain⟨r,hr⟩:=hw.rank;have hrb:∀ n,n<S.N->r n<=((List.range S.N).map r).sum:=fun n hn=>ur (mem_map.2 ⟨n,mem_range.2 hn,rfl⟩);generalize hM:((List.range S.N).map r).sum=M at hrb;obtain⟨ys,s',v1,v2⟩:=zqx (N:=S.N) (get:=S.get) (pg:=S.page) (U:=zE S.sup.pages S.now) (r:=r) (fun n hn=>by
  have hg:=h.get hn
  have hgd:=hw.good n hn
  refine⟨(zA.1 hn).1,hw.lt hn,hg.1,hg.2,fun k hk=>⟨hgd.2 k hk,hr n hn k hk⟩⟩) (M+1) R (List.replicate S.N false) (by simp) (fun k hk=>⟨hw.root k hk,by have:=hrb k (hw.lt (hw.root k hk));omega⟩)
 have hs0:∀ m,(List.replicate S.N false).getD m false=false:=fun m=>by
  rw[getD_eq_getElem?_getD,List.getElem?_replicate];split<;>rfl
 have hsu:∀ m,s'.getD m false=true->zE S.sup.pages S.now m=true/\∀ k∈zU S.page m,s'.getD k false=true:=fun m hm=>by
  rcases v2.new m hm with e|e
  ·rw[hs0]at e;cases e
  ·exact e
 have hall:∀ t n,zE S.sup.pages S.now n=true->M-r n<=t->s'.getD n false=true:=by
  intro t
  induction t with
  |zero=>
   intro n hn ht;have hsum:=hw.sum n (zA.1 hn).1 (zA.1 hn).2.1;have hpos:=(zA.1 hn).2.2
   by_cases hR:n∈R
   ·exact v2.all n hR
   ·exfalso
    have:R.count n=0:=count_eq_zero.2 hR;have hz:ji S.N S.sup.pages S.page S.now n=0:=by
     unfold ji;rw[jm (g:=fun _=>0) (fun m hm=>?_)]
     ·exact jn _
     ·unfold xt;split
      ·rename_i hum;refine count_eq_zero.2 (fun hk=>?_);have:=hr m hum n hk;have:=hrb m hm;omega
      ·rfl
    omega
  |succ t ih=>
   intro n hn ht;have hsum:=hw.sum n (zA.1 hn).1 (zA.1 hn).2.1;have hpos:=(zA.1 hn).2.2
   by_cases hR:n∈R
   ·exact v2.all n hR
   ·have:R.count n=0:=count_eq_zero.2 hR
    by_cases hex:∃ m,zE S.sup.pages S.now m=true/\n∈zU S.page m
    ·obtain⟨m,hum,hk⟩:=hex;have h1:=hr m hum n hk;have h2:=hrb m (hw.lt hum);exact(hsu m (ih m hum (by omega))).2 n hk
    ·exfalso
     have hz:ji S.N S.sup.pages S.page S.now n=0:=by
      unfold ji;rw[jm (g:=fun _=>0) (fun m hm=>?_)]
      ·exact jn _
      ·unfold xt;split
       ·rename_i hum;exact count_eq_zero.2 (fun hk=>hex ⟨m,hum,hk⟩)
       ·rfl
     omega
 have hcnt:∀ x,ys.count x=R.count x+ji S.N S.sup.pages S.page S.now x:=by
  intro x;rw[v2.cnt x];congr 1;unfold ji;refine jm (fun m hm=>?_);unfold jV xt;rw[hs0]
  by_cases hu:zE S.sup.pages S.now m=true
  ·rw[if_pos ⟨hall _ m hu (Nat.le_refl _),rfl⟩,if_pos hu]
  ·rw[if_neg (fun e=>hu (hsu m e.1).1),if_neg hu]
 have hyN:∀ y∈ys,y<S.N:=fun y hy=>hw.lt (v2.use y hy);have hcn:∀ x,ys.count x=if 2<=x/\x∉S.sup.pages then S.now.getD x 0 else 0:=by
  intro x
  by_cases hx:2<=x/\x∉S.sup.pages
  ·rw[if_pos hx,hcnt x,<- hw.sum x hx.1 hx.2]
  ·rw[if_neg hx];refine count_eq_zero.2 (fun hy=>hx ?_);have:=zA.1 (v2.use x hy);exact⟨this.1,this.2.1⟩
 refine⟨M+1,ys,s',v1,hyN,?_,?_⟩
 ·rw[zcX ys hyN];have:=zji (f:=fun k=>ys.count k) (B:=65535) S.N (fun m _=>by
   show ys.count m<=_
   rw[hcn m]
   have:=hfit m
   split<;>omega)
  have h2:S.N*65535<=4096*65535:=Nat.mul_le_mul_right _ hN.2;omega
 ·have hlen:(uv S.N S.sup.pages ys).length=S.N:=by
   unfold uv;rw[zcW,length_set,length_set,kB]
  apply List.ext_getElem
  ·rw[hlen];simp[zad,hnow]
  ·intro k h1 h2;rw[hlen]at h1;have e1:(uv S.N S.sup.pages ys).getD k 0=((S.now.getD k 0:Nat):Int):=by
    unfold uv;rw[zf9 _ _ k (by rw[length_set,length_set,kB];exact h1)]
    by_cases hp:k∈S.sup.pages
    ·rw[if_pos hp,(hw.pgs k hp).2.2];rfl
    ·rw[if_neg hp];have hc:=znQ S.N ys hyN k;rw[if_pos h1,hcn k]at hc
     by_cases hk1:k=1
     ·subst hk1;rw[getD_eq_getElem?_getD,List.getElem?_set_self (by rw[length_set,kB];exact h1),hw.head.2];rfl
     ·rw[getD_eq_getElem?_getD,List.getElem?_set_ne (by omega)]
      by_cases hk0:k=0
      ·subst hk0;rw[List.getElem?_set_self (by rw[kB];exact h1),hw.head.1];rfl
      ·rw[List.getElem?_set_ne (by omega),<- getD_eq_getElem?_getD,hc,if_pos ⟨by omega,hp⟩]
   rw[getD_eq_getElem?_getD,List.getElem?_eq_getElem (by rw[hlen];exact h1)]at e1;rw[show(uv S.N S.sup.pages ys)[k]=((S.now.getD k 0:Nat):Int) from e1];have h2':k<S.now.length:=by omega
   simp[zad,getD_eq_getElem?_getD,h2']
end V
/- Spaces that are well:commit,Format. -/
namespace V
open Go Go.Proofs Go.RowKit Crc
structure vo (d:Dev):Prop where
 ok:d.Ok
 fuse:d.fuse=-1
theorem Dev.Ok.facts {d:Dev} (h:d.Ok):∃ z N:Nat,d.size=(z:Int)/\d.blocks=(N:Int)/\zI d.size=(z:Int)-16/\128<=z/\z<=4096/\8<=N/\N<=4096/\zI d.size=((2*zN d.size:Nat):Int):=by
 obtain⟨g1,g2,g3,g4,g5⟩:=qg h.geo;obtain⟨h8,_⟩:=zd9 h.geo;have h4:=zd8 h8;exact⟨d.size.toNat,d.blocks.toNat,by omega,by omega,by omega,by omega,by omega,by omega,by omega,h4⟩
theorem zdH {d:Dev} (h:vo d) {k:Nat} {f:Fra} (hk:(k:Int)<d.blocks) (hf:((B f.2.2).length:Int)<=zI d.size):
  (yp d k f).2=0/\vo (yp d k f).1/\(∀ j:Int,0<=j/\j<d.blocks->((yp d k f).1.read j).1=if j=k then mkB (yF d.size.toNat f) else (d.read j).1):=by
 obtain⟨z,N,e1,e2,e3,e4,e5,e6,e7,e8⟩:=h.ok.facts;have hputR:xy d.size f=(yF z f,0):=by
  unfold xy;rw[if_neg (by omega),if_neg (by omega),e1];rfl
 have hl:(yF z f).length=z:=ku (by omega);have hws:(((mkB (yF z f)).size:Nat):Int)=d.size:=by rw[xz,hl,e1]
 have hwf:yp d k f=d.write k (mkB (yF z f)):=by
  unfold yp;rw[hputR,if_neg (by simp)]
 have hk2:0<=(k:Int)/\(k:Int)<d.blocks:=by omega
 obtain⟨q1,q2,q3⟩:=vL h.ok hk2 hws h.fuse;rw[hwf];have hez:d.size.toNat=z:=by omega
 rw[hez];exact⟨(x6 h.ok hk2 hws (by rw[h.fuse];decide) hk2).1,⟨q1,q2⟩,fun j hj=>(x6 h.ok hk2 hws (by rw[h.fuse];decide) hj).2⟩
theorem uw {d:Dev} (h:vo d):d.flush.2=0/\vo d.flush.1/\d.flush.1.pen=[]/\∀ j:Int,(d.flush.1.read j).1=(d.read j).1:=by
 have hok:=h.ok;have hb:=hok.burnt;have hf:max (-1) (d.fuse-1)=-1:=by rw[h.fuse];decide
 unfold Dev.flush;rw[if_neg (by rw[h.fuse];decide)];refine⟨rfl,⟨⟨hok.geo,?_,zcG _ _ hok.each (fun p hp=>(hok.pend p hp).2.2),(fun p hp=>by cases hp),hb.fuse⟩,hf⟩,rfl,fun j=>rfl⟩;show(((d.pen.foldl Go.Proofs.YtplgodmmmppmeaaGreat.V.put d.dur).length:Nat):Int)=d.blocks;rw[zaa];exact hok.len
theorem zbS:∀ (l:List (Nat×Fra)) (d:Dev),vo d->(∀ p∈l,(p.1:Int)<d.blocks/\((B p.2.2.2).length:Int)<=zI d.size)->
  (wrL d l).2=0/\vo (wrL d l).1/\(∀ j:Int,0<=j/\j<d.blocks->(∀ p∈l,(p.1:Int)≠j)->((wrL d l).1.read j).1=(d.read j).1)
 |[],d,h,_=>⟨rfl,h,fun _ _ _=>rfl⟩
 |kf::r,d,h,hl=>by
  obtain⟨h1,h2⟩:=hl kf mem_cons_self;obtain⟨g1,g2,g3⟩:=zdH h h1 h2;obtain⟨d1,d2,d3⟩:=uu d kf.1 kf.2;obtain⟨k1,k2,k3⟩:=zbS r (yp d kf.1 kf.2).1 g2 (fun p hp=>by rw[d1,d2];exact hl p (mem_cons_of_mem _ hp));unfold wrL;rw[if_neg (fun hh=>hh g1)];refine⟨k1,k2,fun j hj hno=>?_⟩;rw[k3 j (by rw[d2];exact hj) (fun p hp=>hno p (mem_cons_of_mem _ hp)),g3 j hj,if_neg (fun e=>hno kf mem_cons_self e.symm)]
theorem zga (l:List Nat) (per i:Nat):(zdc l per i).length<=2*per:=by
 unfold zdc;have:∀ l:List Nat,(l.flatMap (le 2)).length=2*l.length:=by
  intro l
  induction l with
  |nil=>rfl
  |cons a t ih=>rw[flatMap_cons,length_append,ih,zx,length_cons];omega
 rw[this,length_take];omega
theorem ziI {d:Dev} (h:vo d) {c:List Nat} {s:Sup} {slot:Int} (hchk:chk s=0) (hsz:s.size=d.size) (hps:∀ p∈s.pages,2<=p/\(p:Int)<d.blocks) (hslot:slot=0\/slot=1):
  (yP d c s slot).2=0/\vo (yP d c s slot).1/\(yP d c s slot).1.pen=[]/\(∀ j:Int,2<=j/\j<d.blocks->(∀ p∈s.pages,(p:Int)≠j)->((yP d c s slot).1.read j).1=(d.read j).1):=by
 obtain⟨z,N,e1,e2,e3,e4,e5,e6,e7,e8⟩:=h.ok.facts;have hL:∀ p∈xA s.gen s.pages (ya c (zN d.size)),p.1∈s.pages/\((B p.2.2.2).length:Int)<=zI d.size:=by
  intro p hp;unfold xA at hp;obtain⟨q,hq,rfl⟩:=mem_map.1 hp;have h1:=(List.of_mem_zip hq).1;have h2:=(List.of_mem_zip hq).2;refine⟨h1,?_⟩;unfold ya at h2;obtain⟨i,_,hi⟩:=mem_map.1 h2;show((B q.2).length:Int)<=_;rw[<- hi,jN];have:=zga c (zN d.size) i;omega
 obtain⟨w1,w2,w3⟩:=zbS (xA s.gen s.pages (ya c (zN d.size))) d h (fun p hp=>⟨(hps _ (hL p hp).1).2,(hL p hp).2⟩);obtain⟨dm1,dm2,dm3⟩:=zdg (xA s.gen s.pages (ya c (zN d.size))) d;obtain⟨f1,f2,f3,f4⟩:=uw w2;have fd:=ua (wrL d (xA s.gen s.pages (ya c (zN d.size)))).1;unfold yP;generalize (wrL d (xA s.gen s.pages (ya c (zN d.size))))=r at *;have hp0:(xG s).2=0:=by rw[kT hchk]
 have hpl:=(zdB hchk).1;have hs2:((((mkB (xG s).1).size:Nat)):Int)=r.1.flush.1.size:=by rw[xz,hpl,fd.1,dm1,hsz]
 have hsl:0<=slot/\slot<r.1.flush.1.blocks:=by rw[fd.2.1,dm2];omega
 obtain⟨q1,q2,q3⟩:=vL f2.ok hsl hs2 f2.fuse;have hrw:=fun(j:Int) (hj:0<=j/\j<r.1.flush.1.blocks)=>x6 f2.ok hsl hs2 (by rw[f2.fuse];decide) (j:=j) hj;have hw0:=(hrw slot hsl).1;have hwd:=jU r.1.flush.1 slot (mkB (xG s).1);obtain⟨y1,y2,y3,y4⟩:=uw (d:=(r.1.flush.1.write slot (mkB (xG s).1)).1) ⟨q1,q2⟩;rw[if_neg (fun hh=>hh w1),if_neg (fun hh=>hh f1),if_neg (fun hh=>hh hp0),if_neg (fun hh=>hh hw0)];refine⟨y1,y2,y3,fun j hj hno=>?_⟩;rw[y4 j,(hrw j (by rw[fd.2.1,dm2];omega)).2,if_neg (by omega),f4 j,w3 j (by omega) (fun p hp=>hno p.1 (hL p hp).1)]
theorem zcY {size:Int} {N:Nat} (h:yc size N=true):kS size N=((zJ size N:Nat):Int):=by
 obtain⟨h8,n,hn,h1,h2⟩:=zd9 h;obtain⟨hp1,hp2,_⟩:=ka h8;unfold kS zJ yt;rw[if_pos h,zd8 h8];rw[show(2:Int)*(N:Int)+((2*zN size:Nat):Int)-1=((2*N+2*zN size-1:Nat):Int) by omega,<- Int.natCast_ediv];congr 1;rw[<- Nat.div_div_eq_div_mul];congr 1;omega
theorem zpR {size:Int} {N:Nat} (h:yc size N=true):chk (xe size N)=if 14+4*((zJ size N:Nat):Int)>zI size then 3 else 0:=by
 have hn:=zbg h;have hl:(xe size N).pages.length=zJ size N:=kA _;have hget:∀ j,j<zJ size N->(xe size N).pages.getD j 0=j+2:=fun j hj=>by
  show(xH (zJ size N)).getD j 0=_;unfold xH;simp[getD_eq_getElem?_getD,hj]
 rw[zhp]
 ·rw[hl];rfl
 ·exact⟨h,(show(1:Nat)≠0 by decide),.inl rfl,by rw[hl];exact(zcY h).symm⟩
 ·intro j hj;rw[hl]at hj;refine⟨?_,?_,?_⟩
  ·rw[hget j hj];unfold vZ;rw[decide_eq_true];exact⟨by omega,by show((j+2:Nat):Int)<(N:Int);omega⟩
  ·rw[hget j hj];show j+2≠0;omega
  ·rw[hget j hj];intro hm;have hm:j+2∈(xH (zJ size N)).take j:=hm;unfold xH at hm;rw[<- List.map_take,List.take_range]at hm;obtain⟨i,hi,e⟩:=mem_map.1 hm;have:=mem_range.1 hi;omega
theorem ziJ {d:Dev} (h:vo d) (hchk:chk (xe d.size d.blocks.toNat)=0):(yG d).2=0/\Good (qu d) []/\(qu d).dev.pen=[]:=by
 obtain⟨z,N,e1,e2,e3,e4,e5,e6,e7,e8⟩:=h.ok.facts;have hN:d.blocks.toNat=N:=by omega
 have hg:yc d.size (N:Int)=true:=by rw[<- e2];exact h.ok.geo
 obtain⟨n1,n2,n3⟩:=zbg hg;rw[hN]at hchk;have hz:(((yI d.size.toNat).size:Nat):Int)=d.size:=by rw[zbI];omega
 have h1:0<=(1:Int)/\(1:Int)<d.blocks:=by omega
 obtain⟨q1,q2,q3⟩:=vL h.ok h1 hz h.fuse;have hw0:=(x6 h.ok h1 hz (by rw[h.fuse];decide) h1).1;have hwd:=jU d 1 (yI d.size.toNat);have hpages:∀ p∈xH (zJ d.size N),2<=p/\p<N:=fun p hp=>by
  unfold xH at hp;obtain⟨i,hi,rfl⟩:=mem_map.1 hp;have:=mem_range.1 hi;omega
 obtain⟨c1,c2,c3,c4⟩:=ziI (d:=(d.write 1 (yI d.size.toNat)).1) ⟨q1,q2⟩ (c:=yl N (zJ d.size N)) (s:=xe d.size N) (slot:=0) hchk hwd.1.symm (fun p hp=>by have:=hpages p hp;rw[hwd.2.1];omega) (.inl rfl);have eD:yG d=yP (d.write 1 (yI d.size.toNat)).1 (yl N (zJ d.size N)) (xe d.size N) 0:=by
  unfold yG;rw[hN,if_neg (fun hh=>hh hchk),if_neg (fun hh=>hh hw0)]
 have dm:=zaN (d.write 1 (yI d.size.toNat)).1 (yl N (zJ d.size N)) (xe d.size N) 0;have eS:qu d=⟨(yG d).1,xe d.size N,0,yl N (zJ d.size N),yl N (zJ d.size N),none⟩:=by unfold qu;rw[hN]
 rw[eS,eD];refine⟨c1,⟨⟨(dm.1.trans hwd.1).symm,?_,zcU hg,?_,?_,fun l hl=>by cases hl⟩,c2.ok,c2.fuse,by show 1<_;decide,?_⟩,c3⟩
 ·show(N:Int)=_;rw[dm.2,hwd.2.1,e2]
 ·show(yl N (zJ d.size N)).length=((N:Int)).toNat;rw[qV n1];omega
 ·show(yl N (zJ d.size N)).length=((N:Int)).toNat;rw[qV n1];omega
 ·show yf ((N:Int)).toNat (xH (zJ d.size N)) _ (yl N (zJ d.size N)) [];have hget:=fun k=>kN (N:=N) (np:=zJ d.size N) (k:=k) n1;have hnone:∀ k,zE (xH (zJ d.size N)) (yl N (zJ d.size N)) k=false:=fun k=>by
   cases hq:zE (xH (zJ d.size N)) (yl N (zJ d.size N)) k with
   |false=>rfl
   |true=>
    obtain⟨a1,a2,a3⟩:=zA.1 hq;rw[hget k]at a3;split at a3
    ·exfalso
     apply a2;unfold xH;exact mem_map.2 ⟨k-2,mem_range.2 (by omega),by omega⟩
    ·omega
  refine⟨by rw[qV n1];omega,by omega,⟨by rw[hget,if_pos (by omega)],by rw[hget,if_pos (by omega)]⟩,fun p hp=>?_,by simp,(fun n hn=>by rw[hnone]at hn;cases hn),⟨fun _=>0,(fun n hn=>by rw[hnone]at hn;cases hn)⟩,fun n h2 hp=>?_⟩
  ·have:=hpages p hp;refine⟨this.1,by omega,?_⟩;unfold xH at hp;obtain⟨i,hi,rfl⟩:=mem_map.1 hp;have:=mem_range.1 hi;rw[hget,if_pos (by omega)]
  ·have hz0:ji ((N:Int)).toNat (xH (zJ d.size N)) (Spa.page ⟨(yP (d.write 1 (yI d.size.toNat)).1 (yl N (zJ d.size N)) (xe d.size N) 0).1,xe d.size N,0,yl N (zJ d.size N),yl N (zJ d.size N),none⟩) (yl N (zJ d.size N)) n=0:=by
    unfold ji;rw[jm (g:=fun _=>0) (fun m _=>by unfold xt;rw[hnone];rfl)];exact jn _
   have e0:(yl N (zJ d.size N)).getD n 0=0:=by
    rw[hget,if_neg];intro hlt;apply hp;show n∈xH (zJ d.size N);unfold xH;exact mem_map.2 ⟨n-2,mem_range.2 (by omega),by omega⟩
   rw[e0,List.count_nil,Nat.zero_add];exact hz0.symm
end V
/- Spaces:several blocks taken,and what Commit comes to:plain. -/
namespace V
open Go Go.Proofs Go.RowKit Crc
theorem znR (S:Spa):S.yg.Nodup:=List.Nodup.sublist List.filter_sublist List.nodup_range
namespace Spa
end Spa
namespace Spa
end Spa
structure zqR (S:Spa):Prop where
 at_:∀ p∈S.sup.pages,2<=p/\p<S.N/\S.now.getD p 0=1
 nodup:S.sup.pages.Nodup
 len:S.sup.pages.length=yt S.N (zN S.sup.size)
end V
/- Contracts of the package space:Commit. -/
namespace V
open Go Go.Proofs Go.RowKit Crc
def zki:List Value->Nat->List Value->List Value
 |cs,_,[]=>cs
 |cs,k,v::r=>zki (cs.set k v) (k+1) r
theorem zdI {w:World} {b:Nat} {cs:List Value} {t:TypeId} (h:Blk w b cs t) {o:Nat}:∀ (vs:List Value) (i:Nat),o+i+vs.length<=cs.length->(∀ v∈vs,v.oneCell'=true)->Storable w ⟨b,o,none⟩ i vs
 |[],_,_,_=>trivial
 |v::r,i,hl,ho=>by
  simp only [length_cons]at hl;refine⟨ho v mem_cons_self,?_,?_,zdI h r (i+1) (by omega) (fun u hu=>ho u (mem_cons_of_mem _ hu))⟩
  ·rw[zC,h.cell];exact⟨_,List.getElem?_eq_getElem (by omega)⟩
  ·rw[zC];exact h.frozen _
theorem zdJ {b o:Nat} {t:TypeId}:∀ (vs:List Value) (i:Nat) (w:World) (cs:List Value),Blk w b cs t->Blk (setCells w ⟨b,o,none⟩ i vs) b (zki cs (o+i) vs) t/\Only (fun k=>k=b) w (setCells w ⟨b,o,none⟩ i vs)
 |[],i,w,cs,h=>⟨h,Only.refl _ _⟩
 |v::r,i,w,cs,h=>by
  simp only [setCells,zC];have h2:=h.set (o+i) v;have o2:Only (fun k=>k=b) w (w.setCell ⟨b,o+i,none⟩ v):=Only.z7 (yH w b (o+i) v) (fun j hj=>.inl (by injection hj with hj;exact hj.symm));obtain⟨g1,g2⟩:=zdJ (o:=o) r (i+1) _ _ h2;exact⟨g1,Only.trans o2 g2 (fun j hj=>.inl hj)⟩
theorem zpS {w:World} {b n:Nat} (o:Nat) {a:Addr} {cs vs:List Value} {t:TypeId} {us:Array Value} {K:WP} (h:Blk w b cs t) (ha:a=⟨b,o,none⟩) (hl:o+vs.length<=cs.length) (hv:∀ v∈vs,v.oneCell'=true) (hu:us.size=n)
  (hK:∀ w',Blk w' b (zki cs o vs) t->Only (fun k=>k=b) w w'->K w'):(zc (us.size=n)<|zu a vs K) w:=by
 subst ha;obtain⟨g1,g2⟩:=zdJ (o:=o) vs 0 w cs h;exact⟨hu,zdI h vs 0 (by omega) hv,hK _ g1 g2⟩
theorem stE {w:World} {b o:Nat} {a:Addr} {cs:List Value} {t:TypeId} {v:Value} {K:WP} (h:Blk w b cs t) (ha:a=⟨b,o,none⟩) (ho:o<cs.length) (hK:∀ w',Blk w' b (cs.set o v) t->Only (fun k=>k=b) w w'->K w'):stW a v K w:=by
 subst ha;exact zQ h ho (hK _ (h.set o v) (Only.z7 (yH w b o v) (fun j hj=>.inl (by injection hj with hj;exact hj.symm))))
variable {w w':World} {b db:Nat} {S:Spa} {F Fd:Nat->Prop} {x:SLC} {hb hr nb nr:Nat} {m:MkL}
end V
/- Contracts of the package space:Open,Root. -/
namespace V
open Go Go.Proofs Go.RowKit Crc
end V
/- Spaces that are well,with what was committed and marked:plain. -/
namespace V
open Go Go.Proofs Go.RowKit Crc
theorem ux {S S':Spa} (hN:S'.N=S.N) (h:∀ n,S.yv n=true->S'.yv n=true):S.zY<=S'.zY:=by
 unfold Spa.zY Spa.yg;rw[<- List.countP_eq_length_filter,<- List.countP_eq_length_filter,hN];refine List.countP_mono_left (fun n _ hn=>?_);rw[Bool.and_eq_true]at hn ⊢;exact⟨hn.1,h n hn.2⟩
theorem zas:∀ {a b:List Nat},a.Nodup->(∀ x∈a,x∈b)->a.length<=b.length
 |[],b,_,_=>Nat.zero_le _
 |x::r,b,hn,h=>by
  obtain⟨hx,hr⟩:=nodup_cons.1 hn;have hb:=h x mem_cons_self;have:=zas (a:=r) (b:=b.erase x) hr (fun y hy=>by
   have hyx:y≠x:=fun e=>hx (e▸hy)
   exact(List.mem_erase_of_ne hyx).2 (h y (mem_cons_of_mem _ hy)))
  rw[List.length_erase_of_mem hb]at this;have:=List.length_pos_of_mem hb;rw[length_cons];omega
theorem zgb:∀ (l:List (Nat×Fra)) (d:Dev),vo d->(∀ p∈l,(p.1:Int)<d.blocks/\((B p.2.2.2).length:Int)<=zI d.size)->(l.map (·.1)).Nodup->
  ∀ p∈l,((wrL d l).1.read (p.1:Int)).1=mkB (yF d.size.toNat p.2)
 |[],d,_,_,_,p,hp=>by cases hp
 |kf::r,d,h,hl,hnd,p,hp=>by
  obtain⟨h1,h2⟩:=hl kf mem_cons_self;obtain⟨g1,g2,g3⟩:=zdH h h1 h2;obtain⟨d1,d2,d3⟩:=uu d kf.1 kf.2;have hr:=fun p hp=>hl p (mem_cons_of_mem kf hp);have hr':∀ p∈r,(p.1:Int)<(yp d kf.1 kf.2).1.blocks/\((B p.2.2.2).length:Int)<=zI (yp d kf.1 kf.2).1.size:=fun p hp=>by rw[d1,d2];exact hr p hp
  obtain⟨k1,k2,k3⟩:=zbS r _ g2 hr';rw[map_cons,nodup_cons]at hnd;unfold wrL;rw[if_neg (fun hh=>hh g1)];rcases mem_cons.1 hp with rfl|hp
  ·rw[k3 (p.1:Int) (by rw[d2];exact⟨by omega,h1⟩) (fun q hq e=>hnd.1 (mem_map.2 ⟨q,hq,by omega⟩)),g3 _ ⟨by omega,h1⟩,if_pos rfl]
  ·have:=zgb r _ g2 hr' hnd.2 p hp;rw[this,d1]
theorem znS {gen:Nat} {ps:List Nat} {l:List ByteArray} (h:ps.length=l.length):(xA gen ps l).map (·.1)=ps:=by
 unfold xA;rw[map_map];have:(fun p:Nat×ByteArray=>p.1)=Prod.fst:=rfl;show(ps.zip l).map Prod.fst=ps;rw[List.map_fst_zip (by omega)]
theorem zhE {d:Dev} (h:vo d) {c:List Nat} {s:Sup} {slot:Int} (hchk:chk s=0) (hsz:s.size=d.size) (hps:∀ p∈s.pages,2<=p/\(p:Int)<d.blocks) (hnd:s.pages.Nodup) (hslot:slot=0\/slot=1)
  (hlen:s.pages.length=yt c.length (zN d.size)):
  ((yP d c s slot).1.read slot).1=mkB (xG s).1/\(∀ j:Int,0<=j->j<d.blocks->j≠slot->(∀ p∈s.pages,(p:Int)≠j)->((yP d c s slot).1.read j).1=(d.read j).1)/\
   ∀ i,i<s.pages.length->((yP d c s slot).1.read ((s.pages.getD i 0:Nat):Int)).1=mkB (yF d.size.toNat ((2:UInt8),s.gen,(ya c (zN d.size)).getD i ByteArray.empty)):=by
 obtain⟨z,N,e1,e2,e3,e4,e5,e6,e7,e8⟩:=h.ok.facts;have hPl:=zch c (zN d.size);have hL:∀ p∈xA s.gen s.pages (ya c (zN d.size)),p.1∈s.pages/\((B p.2.2.2).length:Int)<=zI d.size:=by
  intro p hp;unfold xA at hp;obtain⟨q,hq,rfl⟩:=mem_map.1 hp;have h1:=(List.of_mem_zip hq).1;have h2:=(List.of_mem_zip hq).2;refine⟨h1,?_⟩;unfold ya at h2;obtain⟨i,_,hi⟩:=mem_map.1 h2;show((B q.2).length:Int)<=_;rw[<- hi,jN];have:=zga c (zN d.size) i;omega
 have hL':∀ p∈xA s.gen s.pages (ya c (zN d.size)),(p.1:Int)<d.blocks/\((B p.2.2.2).length:Int)<=zI d.size:=fun p hp=>⟨(hps _ (hL p hp).1).2,(hL p hp).2⟩;obtain⟨w1,w2,w3⟩:=zbS _ d h hL';have w4:=zgb _ d h hL' (by rw[znS (by omega)];exact hnd);obtain⟨dm1,dm2,dm3⟩:=zdg (xA s.gen s.pages (ya c (zN d.size))) d;have hget:=fun i (hi:i<s.pages.length)=>zhA (gen:=s.gen) (ps:=s.pages) (l:=ya c (zN d.size)) (by omega) (i:=i) (by omega);obtain⟨f1,f2,f3,f4⟩:=uw w2;have fd:=ua (wrL d (xA s.gen s.pages (ya c (zN d.size)))).1;unfold yP;generalize (xA s.gen s.pages (ya c (zN d.size)))=L at *;generalize hr:(wrL d L)=r at *;have hp0:(xG s).2=0:=by rw[kT hchk]
 have hpl:=(zdB hchk).1;have hs2:((((mkB (xG s).1).size:Nat)):Int)=r.1.flush.1.size:=by rw[xz,hpl,fd.1,dm1,hsz]
 have hsl:0<=slot/\slot<r.1.flush.1.blocks:=by rw[fd.2.1,dm2];omega
 obtain⟨q1,q2,q3⟩:=vL f2.ok hsl hs2 f2.fuse;have hrw:=fun(j:Int) (hj:0<=j/\j<r.1.flush.1.blocks)=>x6 f2.ok hsl hs2 (by rw[f2.fuse];decide) (j:=j) hj;have hw0:=(hrw slot hsl).1;obtain⟨y1,y2,y3,y4⟩:=uw (d:=(r.1.flush.1.write slot (mkB (xG s).1)).1) ⟨q1,q2⟩;rw[if_neg (fun hh=>hh w1),if_neg (fun hh=>hh f1),if_neg (fun hh=>hh hp0),if_neg (fun hh=>hh hw0)];refine⟨?_,fun j hj hjb hjs hno=>?_,fun i hi=>?_⟩
 ·rw[y4,(hrw slot hsl).2,if_pos rfl]
 ·rw[y4 j,(hrw j (by rw[fd.2.1,dm2];omega)).2,if_neg hjs,f4 j,w3 j ⟨hj,hjb⟩ (fun p hp=>hno p.1 (hL p hp).1)]
 ·have hg:=hget i hi;have hm:=mem_of_getElem? hg;have h2:=hps _ (hL _ hm).1;dsimp only at h2;rw[y4,(hrw _ (by rw[fd.2.1,dm2];omega)).2,if_neg (by omega),f4,w4 _ hm]
structure zhF (S:Spa):Prop where
 slot:S.slot=0\/S.slot=1
 chk:chk S.sup=0
 cur:kM (B (S.dev.read S.slot).1)=(S.sup,0)
 old:(kM (B (S.dev.read (other S.slot)).1)).2≠0\/(kM (B (S.dev.read (other S.slot)).1)).1.gen<S.sup.gen
 pgs:∀ i,i<S.sup.pages.length->(S.dev.read ((S.sup.pages.getD i 0:Nat):Int)).1=mkB (yF S.dev.size.toNat ((2:UInt8),S.sup.gen,(ya S.held (zN S.dev.size)).getD i ByteArray.empty))
 fit:∀ c∈S.held,c<65536
def MW (N:Nat) (ps:List Nat) (pg:PgF):Option (List Nat)->Option (List Nat)->Prop
 |none,none=>True
 |some l,some m=>yf N ps pg l m
 |_,_=>False
structure Great (S:Spa) (R H:List Nat) (M:Option (List Nat)):Prop where
 good:Good S R
 heldOK:zhF S
 hwell:yf S.N S.sup.pages S.page S.held H
 mwell:MW S.N S.sup.pages S.page S.mark M
 room:S.sup.pages.length<=S.zY
theorem MW.zaf {N:Nat} {ps:List Nat} {pg pg':PgF} {l m:Option (List Nat)} (h:MW N ps pg l m) (ho:∀ n,cnt l n≠0->2<=n->n<N->pg' n=pg n):MW N ps pg' l m:=by
 cases l with
 |none=>cases m with
  |none=>trivial
  |some _=>exact h.elim
 |some l=>cases m with
  |none=>exact h.elim
  |some m=>
   have h:yf N ps pg l m:=h;refine yf.zaf h (fun n hn=>ho n ?_ ?_ (h.lt hn))
   ·have:=(zA.1 hn).2.2;show l.getD n 0≠0;omega
   ·exact(zA.1 hn).1
theorem zhF.zoj {S:Spa} {R:List Nat} (h:zhF S) (hg:Good S R):zqR S:=by
 obtain⟨⟨c1,c2,c3,c4⟩,c5,c6⟩:=zbb h.chk;have hN:S.sup.blocks=(S.N:Int):=hg.dims.blocks;have h4:=zcY (size:=S.sup.size) (N:=S.N) (by rw[<- hN];exact c1);rw[hN,h4]at c4;refine⟨hg.well.pgs,?_,by unfold zJ at c4;omega⟩;rw[List.nodup_iff_pairwise_ne,List.pairwise_iff_getElem];intro i j hi hj hij e;apply(c5 j hj).2.2;rw[getD_eq_getElem?_getD,List.getElem?_eq_getElem hj,Option.getD_some,<- e];exact List.mem_take_iff_getElem.2 ⟨i,by omega,rfl⟩
theorem zlu {S:Spa} {R H:List Nat} {M:Option (List Nat)} {p:Page} (h:Great S (p.2.1++R) H M) (ht:3<=p.1.toNat) (hk:(p.2.1.length:Int)<=S.room 0 / 4) (hd:(p.2.2.size:Int)<=S.room p.2.1.length) (hfree:S.sup.pages.length<S.zY):
  (S.put p).2.2=0/\vn S (S.put p).1 p (S.put p).2.1/\Great (S.put p).1 ((S.put p).2.1::R) H M:=by
 obtain⟨h1,h2,h3⟩:=zeg h.good ht hk hd hfree;refine⟨h1,h2,?_⟩;generalize (S.put p).1=S' at *;generalize (S.put p).2.1=n at *;have hN:S'.N=S.N:=by unfold Spa.N;rw[h2.sup]
 obtain⟨f1,f2,f3⟩:=zS.1 h2.free;have hb:=h.good.dims.blocks;have hn:=h.good.dims.n;have ho:=h.heldOK;have hslot:∀ j:Int,j=0\/j=1->(S'.dev.read j).1=(S.dev.read j).1:=fun j hj=>h2.read j (by omega) (by omega) (by have:=h2.two;omega);refine⟨h3,⟨?_,?_,?_,?_,?_,?_⟩,?_,?_,?_⟩
 ·rw[h2.slot];exact ho.slot
 ·rw[h2.sup];exact ho.chk
 ·rw[h2.slot,h2.sup,hslot _ ho.slot];exact ho.cur
 ·rw[h2.slot,h2.sup,hslot _ (by unfold other;split<;>simp)];exact ho.old
 ·intro i hi;rw[h2.sup]at hi ⊢;rw[h2.held,h2.dim.1,h2.read _ (by omega) ?_ ?_]
  ·exact ho.pgs i hi
  ·have:=(h.good.well.pgs (S.sup.pages.getD i 0) (by rw[getD_eq_getElem?_getD,List.getElem?_eq_getElem hi];exact getElem_mem _)).2.1;omega
  ·intro e;have e:S.sup.pages.getD i 0=n:=by omega
   apply h2.pgs;rw[<- e,getD_eq_getElem?_getD,List.getElem?_eq_getElem hi];exact getElem_mem _
 ·rw[h2.held];exact ho.fit
 ·rw[hN,h2.sup,h2.held];exact yf.zaf h.hwell (fun m hm=>h2.other m (fun e=>by subst e;have:=(zA.1 hm).2.2;omega) (h.hwell.lt hm))
 ·rw[hN,h2.sup,h2.mark];exact h.mwell.zaf (fun m hm _ hmN=>h2.other m (fun e=>by subst e;exact hm f3) hmN)
 ·have:=h2.yg;have hh:=h.room;rw[h2.sup];unfold Spa.zY at hfree ⊢;rw[this]at hfree;simp only [length_cons]at hfree;omega
theorem Great.kz {S:Spa} {R R' H:List Nat} {M:Option (List Nat)} {c:List Nat} (h:Great S R H M) (hg:Good { S with now:=c } R') (hr:S.sup.pages.length<=({ S with now:=c }:Spa).zY):Great { S with now:=c } R' H M:=
 ⟨hg,⟨h.heldOK.slot,h.heldOK.chk,h.heldOK.cur,h.heldOK.old,h.heldOK.pgs,h.heldOK.fit⟩,h.hwell,h.mwell,hr⟩
theorem Great.perm {S:Spa} {R R' H:List Nat} {M:Option (List Nat)} (h:Great S R H M) (hp:R.Perm R'):Great S R' H M:=⟨h.good.perm hp,h.heldOK,h.hwell,h.mwell,h.room⟩
end V
/- Spaces that are well:Commit,Format,Mark,Back,Done,Share,Drop:plain. -/
namespace V
open Go Go.Proofs Go.RowKit Crc
theorem znT {size:Int} {N:Nat} (h:yc size N=true):2*zJ size N+2<=N:=by
 obtain⟨h8,n,hn,h1,h2⟩:=zd9 h;obtain rfl:N=n:=by omega
 obtain⟨hp1,hp2,_⟩:=ka h8;have hx:yt N (zN size)<=(N+55) / 56:=by
  unfold yt;rw[Nat.div_le_iff_le_mul_add_pred (by omega)];have h3:N+55<56*((N+55) / 56+1):=Nat.lt_mul_div_succ _ (by omega);have h4:56*((N+55) / 56)<=zN size*((N+55) / 56):=Nat.mul_le_mul_right _ hp1;omega
 unfold zJ;omega
theorem zlv (n:Nat):(kM (B (yI n))).2≠0:=by
 intro h;obtain⟨h1,h2⟩:=zpI h;have hc:=zje (s:=(kM (B (yI n))).1) (by rw[h1]);rw[kT hc]at h1;injection h1 with h1 _
 have h3:(B (yI n)).getD 0 0=0:=by
  unfold yI;have:∀ k:Nat,(List.replicate k (0:UInt8)).getD 0 0=0:=fun k=>by cases k<;>rfl
  first
   |(rw[jN];exact this _)
   |(rw[xv];exact this _)
 rw[<- h1]at h3;have h4:(yF (kM (B (yI n))).1.size.toNat (vI (kM (B (yI n))).1)).getD 0 0=1:=by
  unfold yF xV kE;rfl
 rw[h4]at h3;cases h3
theorem zag {d:Dev} (h:vo d) (hchk:chk (xe d.size d.blocks.toNat)=0):(yG d).2=0/\Great (qu d) [] [] none/\(qu d).dev.pen=[]:=by
 obtain⟨g1,g2,g3⟩:=ziJ h hchk;refine⟨g1,?_,g3⟩;obtain⟨z,N,e1,e2,e3,e4,e5,e6,e7,e8⟩:=h.ok.facts;have hN:d.blocks.toNat=N:=by omega
 have hg:yc d.size (N:Int)=true:=by rw[<- e2];exact h.ok.geo
 obtain⟨n1,n2,n3⟩:=zbg hg;have n4:=znT hg;rw[hN]at hchk;have hz:(((yI d.size.toNat).size:Nat):Int)=d.size:=by rw[zbI];omega
 have h1:0<=(1:Int)/\(1:Int)<d.blocks:=by omega
 obtain⟨q1,q2,q3⟩:=vL h.ok h1 hz h.fuse;have hw0:=(x6 h.ok h1 hz (by rw[h.fuse];decide) h1).1;have hw1:=(x6 h.ok h1 hz (by rw[h.fuse];decide) h1).2;have hwd:=jU d 1 (yI d.size.toNat);have hpm:∀ p,p∈xH (zJ d.size N)↔2<=p/\p<2+zJ d.size N:=fun p=>by
  unfold xH;constructor
  ·intro hp;obtain⟨i,hi,rfl⟩:=mem_map.1 hp;have:=mem_range.1 hi;omega
  ·intro hp;exact mem_map.2 ⟨p-2,mem_range.2 (by omega),by omega⟩
 have hnd:(xH (zJ d.size N)).Nodup:=by
  unfold xH;rw[List.nodup_iff_pairwise_ne,List.pairwise_map];exact List.Pairwise.imp (fun hab e=>by omega) List.pairwise_lt_range
 have hfl:=qV (N:=N) (np:=zJ d.size N) n1;obtain⟨r1,r2,r3⟩:=zhE (d:=(d.write 1 (yI d.size.toNat)).1) ⟨q1,q2⟩ (c:=yl N (zJ d.size N)) (s:=xe d.size N) (slot:=0) hchk hwd.1.symm (fun p hp=>by have:=(hpm p).1 hp;rw[hwd.2.1];omega) hnd (.inl rfl) (by rw[hwd.1,hfl];exact kA _);have eD:yG d=yP (d.write 1 (yI d.size.toNat)).1 (yl N (zJ d.size N)) (xe d.size N) 0:=by
  unfold yG;rw[hN,if_neg (fun hh=>hh hchk),if_neg (fun hh=>hh hw0)]
 have dm:=zaN (d.write 1 (yI d.size.toNat)).1 (yl N (zJ d.size N)) (xe d.size N) 0;have eS:qu d=⟨(yG d).1,xe d.size N,0,yl N (zJ d.size N),yl N (zJ d.size N),none⟩:=by unfold qu;rw[hN]
 rw[eS]at g2 ⊢;refine⟨g2,⟨.inl rfl,hchk,?_,.inl ?_,?_,?_⟩,g2.well,trivial,?_⟩
 ·show kM (B ((yG d).1.read 0).1)=_;rw[eD,r1,xv];exact znF (zcU hg) (by rw[kT hchk])
 ·show(kM (B ((yG d).1.read 1).1)).2≠0;rw[eD,r2 1 (by omega) (by rw[hwd.2.1];omega) (by omega) (fun p hp=>by have:=(hpm p).1 hp;omega),hw1,if_pos rfl];exact zlv _
 ·intro i hi;show((yG d).1.read (((xH (zJ d.size N)).getD i 0:Nat):Int)).1=mkB (yF (yG d).1.size.toNat ((2:UInt8),1,(ya (yl N (zJ d.size N)) (zN (yG d).1.size)).getD i ByteArray.empty));rw[eD,dm.1];exact r3 i hi
 ·intro c hc;have hc:c∈yl N (zJ d.size N):=hc;unfold yl at hc;rw[mem_append,List.mem_replicate,List.mem_replicate]at hc;omega
 ·show(xH (zJ d.size N)).length<=List.length _;rw[kA];have:=zas (a:=(List.range (zJ d.size N)).map (·+(2+zJ d.size N))) (b:=Spa.yg ⟨(yG d).1,xe d.size N,0,yl N (zJ d.size N),yl N (zJ d.size N),none⟩) ?_ ?_
  ·rw[length_map,length_range]at this;exact this
  ·rw[List.nodup_iff_pairwise_ne,List.pairwise_map];exact List.Pairwise.imp (fun hab e=>by omega) List.pairwise_lt_range
  ·intro k hk;obtain⟨i,hi,rfl⟩:=mem_map.1 hk;have:=mem_range.1 hi;refine ub.2 ⟨by show i+(2+zJ d.size N)<((N:Int)).toNat;omega,by omega,zS.2 ⟨?_,?_,rfl⟩⟩
   ·show(yl N (zJ d.size N)).getD _ 0=0;rw[kN n1,if_neg (by omega)]
   ·show(yl N (zJ d.size N)).getD _ 0=0;rw[kN n1,if_neg (by omega)]
theorem Great.less {S:Spa} {R R' H:List Nat} {M:Option (List Nat)} {c:List Nat} (h:Great S R H M) (hg:Good { S with now:=c } R') (hle:∀ k,c.getD k 0<=S.now.getD k 0):Great { S with now:=c } R' H M:=by
 refine h.kz hg (Nat.le_trans h.room (ux rfl fun n hn=>?_));obtain⟨f1,f2,f3⟩:=zS.1 hn;exact zS.2 ⟨by have:=hle n;show c.getD n 0=0;omega,f2,f3⟩
theorem Great.more {S:Spa} {R R' H:List Nat} {M:Option (List Nat)} {n:Nat} (h:Great S R H M) (hu:zE S.sup.pages S.now n=true) (hg:Good { S with now:=S.now.set n (S.now.getD n 0+1) } R'):Great { S with now:=S.now.set n (S.now.getD n 0+1) } R' H M:=by
 refine h.kz hg (Nat.le_trans h.room (ux rfl fun k hk=>?_));obtain⟨f1,f2,f3⟩:=zS.1 hk;refine zS.2 ⟨?_,f2,f3⟩;show(S.now.set n (S.now.getD n 0+1)).getD k 0=0;have:=(zA.1 hu).2.2;rw[ym,if_neg (fun e=>by rw[e.1]at this;omega)];exact f1
end V
/- Blobs:plain. -/
namespace V
open Go Go.Proofs Go.RowKit Crc
structure Kept (S S':Spa):Prop where
 sup:S'.sup=S.sup
 held:S'.held=S.held
 mark:S'.mark=S.mark
 slot:S'.slot=S.slot
 dim:S'.dev.size=S.dev.size/\S'.dev.blocks=S.dev.blocks
 read:∀ k:Int,0<=k->k<S.N->(k.toNat<2\/S.yv k.toNat=false)->(S'.dev.read k).1=(S.dev.read k).1
structure Puts (S Si:Spa) (R ks:List Nat) (ps:List Page):Prop where
 good:Good Si (ks++R)
 sup:Si.sup=S.sup
 held:Si.held=S.held
 mark:Si.mark=S.mark
 slot:Si.slot=S.slot
 len:ps.length=ks.length
 free:S.yg=ks++Si.yg
 page:∀ j,j<ks.length->Si.page (ks.getD j 0)=(ps.getD j xb,0)
 other:∀ k,k<S.N->k∉ks->Si.page k=S.page k
 now:∀ k,Si.now.getD k 0=if k∈ks then 1 else S.now.getD k 0
 nlen:Si.now.length=S.now.length
 pen:Si.dev.pen.length=S.dev.pen.length+ks.length
 read:∀ k:Int,0<=k->k<S.N->k.toNat∉ks->(Si.dev.read k).1=(S.dev.read k).1
 dim:Si.dev.size=S.dev.size/\Si.dev.blocks=S.dev.blocks
theorem Puts.N {S Si:Spa} {R ks:List Nat} {ps:List Page} (h:Puts S Si R ks ps):Si.N=S.N:=by unfold Spa.N;rw[h.sup]
theorem Puts.nil {S:Spa} {R:List Nat} (h:Good S R):Puts S S R [] []:=⟨h,rfl,rfl,rfl,rfl,rfl,rfl,fun j hj=>absurd hj (Nat.not_lt_zero j),fun _ _ _=>rfl,fun _=>by simp,rfl,rfl,fun _ _ _ _=>rfl,rfl,rfl⟩
theorem Puts.mem {S Si:Spa} {R ks:List Nat} {ps:List Page} (h:Puts S Si R ks ps) {k:Nat} (hk:k∈ks):2<=k/\k<S.N/\S.yv k=true/\k∉S.sup.pages:=by
 have hm:k∈S.yg:=by rw[h.free];exact mem_append_left _ hk
 obtain⟨h1,h2,h3⟩:=ub.1 hm;refine⟨h2,h1,h3,fun hp=>?_⟩;have hpg:=(h.good.well.pgs k (by rw[h.sup];exact hp)).2.2;have hu:=h.good.well.root k (mem_append_left _ hk);have:=(zA.1 hu).2.1;rw[h.sup]at this;exact this hp
theorem Puts.kept {S Si:Spa} {R ks:List Nat} {ps:List Page} (h:Puts S Si R ks ps):Kept S Si:=
 ⟨h.sup,h.held,h.mark,h.slot,h.dim,fun k h0 hk hf=>h.read k h0 hk (fun hm=>by
  obtain⟨a1,a2,a3,a4⟩:=h.mem hm
  rcases hf with hf|hf
  ·omega
  ·rw[hf]at a3;cases a3)⟩
theorem Puts.step {S Si:Spa} {R ks:List Nat} {ps:List Page} (h:Puts S Si R ks ps) {t:UInt8} {d:ByteArray} (ht:3<=t.toNat) (hd:(d.size:Int)<=Si.room 0) (hfree:Si.sup.pages.length<Si.zY):
  (Si.put (t,[],d)).2.2=0/\Puts S (Si.put (t,[],d)).1 R (ks++[(Si.put (t,[],d)).2.1]) (ps++[(t,[],d)]):=by
 have hdim:=h.good.dims;have hsz:=hdim.size;have hr0:Si.room 0=Si.sup.size-18:=by unfold Spa.room;rw[hdim.room,if_neg (by omega)];omega
 obtain⟨h1,h2,h3⟩:=zeg (p:=(t,[],d)) (R:=ks++R) h.good ht (by show(0:Int)<=_;omega) hd hfree;refine⟨h1,?_⟩;generalize (Si.put (t,[],d)).2.1=n at *;generalize (Si.put (t,[],d)).1=S' at *;have hnk:n∉ks:=fun hk=>by
  have hf:=(zS.1 h2.free).1;rw[h.now n,if_pos hk]at hf;cases hf
 refine⟨h3.perm ?_,h2.sup.trans h.sup,h2.held.trans h.held,h2.mark.trans h.mark,h2.slot.trans h.slot,by simp[h.len],?_,fun j hj=>?_,fun k hk hks=>?_,fun k=>?_,?_,?_,fun k h0 hk hks=>?_,h2.dim.1.trans h.dim.1,h2.dim.2.trans h.dim.2⟩
 ·rw[append_assoc];exact List.perm_middle.symm
 ·rw[h.free,h2.yg,append_assoc,List.singleton_append]
 ·rw[length_append,length_singleton]at hj
  by_cases hjl:j<ks.length
  ·rw[show(ks++[n]).getD j 0=ks.getD j 0 by rw[getD_eq_getElem?_getD,List.getElem?_append_left hjl,<- getD_eq_getElem?_getD],show(ps++[((t,[],d):Page)]:List Page).getD j xb=ps.getD j xb by rw[getD_eq_getElem?_getD,List.getElem?_append_left (by rw[h.len];exact hjl),<- getD_eq_getElem?_getD]];have hmem:ks.getD j 0∈ks:=by rw[getD_eq_getElem?_getD,List.getElem?_eq_getElem hjl];exact getElem_mem hjl
   rw[h2.other _ (fun e=>hnk (e▸hmem)) (by rw[h.N];exact(h.mem hmem).2.1),h.page j hjl]
  ·obtain rfl:j=ks.length:=by omega
   rw[show(ks++[n]).getD ks.length 0=n by simp,show(ps++[((t,[],d):Page)]:List Page).getD ks.length xb=(t,[],d) by rw[<- h.len];simp];exact h2.page
 ·simp only [mem_append,mem_singleton,not_or]at hks;rw[h2.other k hks.2 (by rw[h.N];exact hk),h.other k hk hks.1]
 ·rw[h2.now,ym,h.now k];have hnl:n<Si.now.length:=by have:=h2.lt;rw[h.good.ok.now];exact this
  by_cases hkn:n=k
  ·subst hkn;rw[if_pos ⟨rfl,hnl⟩,if_pos (by simp)]
  ·rw[if_neg (fun e=>hkn e.1)]
   by_cases hk:k∈ks
   ·rw[if_pos hk,if_pos (mem_append_left _ hk)]
   ·rw[if_neg hk,if_neg (fun e=>by rcases mem_append.1 e with e|e;exact hk e;exact hkn (mem_singleton.1 e).symm)]
 ·rw[h2.now,length_set];exact h.nlen
 ·rw[h2.pen,h.pen,length_append,length_singleton];omega
 ·simp only [mem_append,mem_singleton,not_or]at hks;rw[h2.read k h0 (by rw[h.N];exact hk) (by omega),h.read k h0 hk hks.1]
theorem zhG {S:Spa} {R:List Nat} {p:Page} (h:Good S (p.2.1++R)) (ht:3<=p.1.toNat) (hk:(p.2.1.length:Int)<=S.room 0 / 4) (hd:(p.2.2.size:Int)<=S.room p.2.1.length) (hfree:S.zY<=S.sup.pages.length):S.put p=(S,0,9):=by
 have hdim:=h.dims;have hsz:=hdim.size;have hr0:S.room 0=S.sup.size-18:=by unfold Spa.room;rw[hdim.room,if_neg (by omega)];omega
 have hku:∀ k∈p.2.1,zE S.sup.pages S.now k=true:=fun k hk=>h.well.root k (mem_append_left _ hk);have hE0:S.jS p=9:=by
  unfold Spa.jS;rw[if_neg,if_neg,if_neg,if_pos hfree]
  ·rintro(e|e)<;>omega
  ·rintro⟨k,hk,e⟩;exact(ql h (hku k hk)).2.1 e
  ·rintro(e|e|⟨k,hk,e⟩)
   ·omega
   ·omega
   ·rw[(ql h (hku k hk)).1]at e;cases e
 unfold Spa.put;rw[if_pos (by rw[hE0];simp),hE0]
inductive Drps (ask:Nat->Bool) (pg:PgF):List Nat->List Nat->List Nat->Prop
 |nil (c:List Nat):Drps ask pg c [] c
 |cons {c c1 c' ks:List Nat} {k:Nat} {e:Int}:(ask k=true->Drp ask pg c [k] c1 e)->(ask k=false->c1=c/\e=2)->Drps ask pg c1 ks c'->Drps ask pg c (k::ks) c'
theorem zdK {ask:Nat->Bool} {pg:PgF}:∀ (ks c:List Nat),ks.Nodup->(∀ k∈ks,ask k=true/\2<=k/\k<c.length/\c.getD k 0=1/\(pg k).2=0/\zU pg k=[])->∃ c',Drps ask pg c ks c'/\c'.length=c.length/\∀ k,c'.getD k 0=if k∈ks then 0 else c.getD k 0
 |[],c,_,_=>⟨c,.nil c,rfl,fun k=>by simp⟩
 |a::t,c,hnd,h=>by
  obtain⟨h1,h2,h3,h4,h5,h6⟩:=h a mem_cons_self;obtain⟨hat,hnd⟩:=nodup_cons.1 hnd;have ea:atE c a=0:=by unfold atE;rw[if_neg (by omega),if_neg (by omega)]
  have es:xr c a=c.set a 0:=by unfold xr;rw[if_pos ea,h4]
  obtain⟨c',g1,g2,g3⟩:=zdK t (c.set a 0) hnd (fun k hk=>by
   obtain⟨k1,k2,k3,k4,k5,k6⟩:=h k (mem_cons_of_mem _ hk)
   refine⟨k1,k2,by rw[length_set];exact k3,?_,k5,k6⟩
   rw[ym,if_neg (show ¬(a=k/\k<c.length) from fun e=>hat (e.1▸hk))]
   exact k4)
  refine⟨c',.cons (c1:=c.set a 0) (e:=0) (fun _=>.last h4 h1 h5 (by rw[h6,es];exact .nil _)) (fun e=>by rw[h1]at e;cases e) g1,by rw[g2,length_set],fun k=>?_⟩;rw[g3 k,ym]
  by_cases hk:k∈t
  ·rw[if_pos hk,if_pos (mem_cons_of_mem _ hk)]
  ·rw[if_neg hk]
   by_cases hak:a=k
   ·subst hak;rw[if_pos ⟨rfl,h3⟩,if_pos mem_cons_self]
   ·rw[if_neg (fun e=>hak e.1),if_neg (fun e=>by rcases mem_cons.1 e with e|e;exact hak e.symm;exact hk e)]
theorem ziK (S:Spa):S.yg.Nodup:=by
 unfold Spa.yg;exact List.Pairwise.filter _ List.nodup_range
theorem Puts.undo {S Si:Spa} {R ks:List Nat} {ps:List Page} (h:Puts S Si R ks ps) (h0:Good S R) (hp:∀ j,j<ks.length->(ps.getD j xb).2.1=[]):
  ∃ c',Drps Si.asked Si.page Si.now ks c'/\c'=S.now/\Good { Si with now:=c' } R:=by
 have hnd:ks.Nodup:=by
  have:=ziK S;rw[h.free]at this;exact(List.nodup_append.1 this).1
 have hkl:∀ k∈ks,∃ j,j<ks.length/\ks.getD j 0=k:=fun k hk=>by
  obtain⟨j,hj,e⟩:=mem_iff_getElem.1 hk;exact⟨j,hj,by rw[getD_eq_getElem?_getD,List.getElem?_eq_getElem hj];exact e⟩
 obtain⟨c',g1,g2,g3⟩:=zdK (ask:=Si.asked) (pg:=Si.page) ks Si.now hnd (fun k hk=>by
  obtain⟨m1,m2,m3,m4⟩:=h.mem hk
  obtain⟨j,hj,e⟩:=hkl k hk
  have hpj:=h.page j hj
  rw[e]at hpj
  refine⟨kW.2 ⟨m1,by rw[h.N];exact m2,by rw[h.sup];exact m4⟩,m1,by rw[h.good.ok.now,h.N];exact m2,by rw[h.now k,if_pos hk],by rw[hpj],by unfold zU;rw[hpj];exact hp j hj⟩)
 have ec:c'=S.now:=by
  refine qE (by rw[g2,h.nlen]) (fun k=>?_);rw[g3 k,h.now k]
  by_cases hk:k∈ks
  ·rw[if_pos hk];have:=(zS.1 (h.mem hk).2.2.1).1;omega
  ·rw[if_neg hk,if_neg hk]
 refine⟨c',g1,ec,?_⟩;rw[ec];refine h.good.kz (by rw[h.nlen]) ?_;rw[h.N,h.sup];refine h0.well.zaf (fun m hm=>?_);refine h.other m (h0.well.lt hm) (fun hk=>?_);have:=(zS.1 (h.mem hk).2.2.1).1;have:=(zA.1 hm).2.2;omega
def nparts (r len:Nat):Nat:=(len+r-1) / r
def part (r:Nat) (b:ByteArray) (i:Nat):ByteArray:=b.extract (i*r) (min b.size ((i+1)*r))
def vV (r:Nat) (b:ByteArray) (n:Nat):List Page:=(List.range n).map fun i=>((7:UInt8),[],part r b i)
theorem zkj (r:Nat) (b:ByteArray) (n:Nat):vV r b (n+1)=vV r b n++[((7:UInt8),[],part r b n)]:=by simp[vV,range_succ]
theorem zat {r len i:Nat} (hr:1<=r):i<nparts r len↔i*r<len:=uT hr
theorem zcZ {r:Nat} {b:ByteArray} {i:Nat} (hr:1<=r) (h:i<nparts r b.size):(part r b i).size=min r (b.size-i*r)/\1<=(part r b i).size:=by
 have:=(zat hr).1 h;unfold part;rw[ByteArray.size_extract];have e:(i+1)*r=i*r+r:=by rw[Nat.add_mul,Nat.one_mul]
 rw[e];omega
theorem zeX {r:Nat} (hr:1<=r) (b:ByteArray):∀ n,n<=nparts r b.size->((List.range n).flatMap fun i=>B (part r b i))=(B b).take (n*r)
 |0,_=>by simp
 |n+1,h=>by
  have ih:=zeX hr b n (by omega);rw[range_succ,flatMap_append,ih];have hlt:=(zat (r:=r) (len:=b.size) (i:=n) hr).1 (by omega);have e:(n+1)*r=n*r+r:=by rw[Nat.add_mul,Nat.one_mul]
  simp only [flatMap_cons,List.flatMap_nil,append_nil];unfold part;rw[jO,e,List.take_add];congr 1;have hl:(B b).length=b.size:=(yi b).symm;rcases Nat.le_total b.size (n*r+r) with hh|hh
  ·rw[Nat.min_eq_left hh,take_of_length_le (by rw[length_drop];omega),take_of_length_le (by rw[length_drop];omega)]
  ·rw[Nat.min_eq_right hh,show n*r+r-n*r=r by omega]
def Spa.r0 (S:Spa):Nat:=(S.room 0).toNat
def qm (r:Nat):Nat:=min 65536 ((r-4) / 4*r)
structure Blob (S:Spa) (n:Nat) (b:ByteArray) (ks:List Nat):Prop where
 idx:S.get n=(((6:UInt8),ks,mkB (le 4 b.size)),0)
 len:ks.length=nparts S.r0 b.size
 data:∀ i,i<ks.length->S.get (ks.getD i 0)=(((7:UInt8),[],part S.r0 b i),0)
 most:b.size<=qm S.r0
end V
/- Spaces that are well,and blobs;what may have changed is told by Kept:plain. -/
namespace V
open Go Go.Proofs Go.RowKit Crc
end V
/- Trees of at most two levels:plain. -/
namespace V
open Go Go.Proofs Go.RowKit Crc
structure Mk (S S':Spa) (ks:List Nat):Prop where
 sup:S'.sup=S.sup
 held:S'.held=S.held
 mark:S'.mark=S.mark
 slot:S'.slot=S.slot
 dim:S'.dev.size=S.dev.size/\S'.dev.blocks=S.dev.blocks
 yg:S.yg=ks++S'.yg
 now:∀ k,S'.now.getD k 0=if k∈ks then 1 else S.now.getD k 0
 other:∀ k,k<S.N->k∉ks->S'.page k=S.page k
 read:∀ k:Int,0<=k->k<S.N->k.toNat∉ks->(S'.dev.read k).1=(S.dev.read k).1
 pen:S'.dev.pen.length=S.dev.pen.length+ks.length
theorem Mk.refl (S:Spa):Mk S S []:=⟨rfl,rfl,rfl,rfl,⟨rfl,rfl⟩,rfl,fun k=>by simp,fun _ _ _=>rfl,fun _ _ _ _=>rfl,rfl⟩
theorem Mk.N {S S':Spa} {ks:List Nat} (h:Mk S S' ks):S'.N=S.N:=by unfold Spa.N;rw[h.sup]
theorem Mk.trans {S S1 S2:Spa} {ks ls:List Nat} (h:Mk S S1 ks) (g:Mk S1 S2 ls):Mk S S2 (ks++ls):=by
 have hN:=h.N;refine⟨g.sup.trans h.sup,g.held.trans h.held,g.mark.trans h.mark,g.slot.trans h.slot,⟨g.dim.1.trans h.dim.1,g.dim.2.trans h.dim.2⟩,by rw[h.yg,g.yg,append_assoc],fun k=>?_,fun k hk hn=>?_,fun k h0 hk hn=>?_,by rw[g.pen,h.pen,length_append,Nat.add_assoc]⟩
 ·rw[g.now,h.now]
  by_cases e1:k∈ls
  ·rw[if_pos e1,if_pos (List.mem_append_right _ e1)]
  ·rw[if_neg e1]
   by_cases e2:k∈ks
   ·rw[if_pos e2,if_pos (mem_append_left _ e2)]
   ·rw[if_neg e2,if_neg (fun e=>by rcases mem_append.1 e with e|e;exact e2 e;exact e1 e)]
 ·rw[mem_append,not_or]at hn;rw[g.other k (by omega) hn.2,h.other k hk hn.1]
 ·rw[mem_append,not_or]at hn;rw[g.read k h0 (by omega) hn.2,h.read k h0 hk hn.1]
theorem vn.mk_ {S S':Spa} {p:Page} {n:Nat} (h:vn S S' p n) (hl:S.now.length=S.N):Mk S S' [n]:=by
 refine⟨h.sup,h.held,h.mark,h.slot,h.dim,h.yg,fun k=>?_,fun k hk hn=>h.other k (fun e=>hn (by simp[e])) hk,fun k h0 hk hn=>h.read k h0 hk (fun e=>hn (by simp[e])),h.pen⟩;have:=h.lt;rw[h.now,ym,hl]
 by_cases e:k=n
 ·subst e;rw[if_pos ⟨rfl,this⟩,if_pos (mem_singleton.2 rfl)]
 ·rw[if_neg (fun e'=>e e'.1.symm),if_neg (fun e'=>e (mem_singleton.1 e'))]
theorem Puts.mk_ {S Si:Spa} {R ks:List Nat} {ps:List Page} (h:Puts S Si R ks ps):Mk S Si ks:=
 ⟨h.sup,h.held,h.mark,h.slot,h.dim,h.free,h.now,h.other,h.read,h.pen⟩
theorem Mk.free {S S':Spa} {ks:List Nat} (h:Mk S S' ks):S.zY=S'.zY+ks.length:=by
 unfold Spa.zY;rw[h.yg,length_append];omega
theorem Mk.mem {S S':Spa} {ks:List Nat} (h:Mk S S' ks) {k:Nat} (hk:k∈ks):k<S.N/\2<=k/\S.yv k=true:=ub.1 (by rw[h.yg];exact mem_append_left _ hk)
theorem Mk.used {S S':Spa} {ks R:List Nat} (h:Mk S S' ks) (hg:Good S R) {k:Nat} (hu:zE S.sup.pages S.now k=true):S'.page k=S.page k/\S'.now.getD k 0=S.now.getD k 0/\k∉ks:=by
 have hn:k∉ks:=fun hk=>by
  have:=(zS.1 (h.mem hk).2.2).1;have:=(zA.1 hu).2.2;omega
 exact⟨h.other k (hg.well.lt hu) hn,by rw[h.now,if_neg hn],hn⟩
theorem Mk.room {S S':Spa} {ks:List Nat} (h:Mk S S' ks) (k:Int):S'.room k=S.room k:=by unfold Spa.room;rw[h.sup]
theorem Mk.r0 {S S':Spa} {ks:List Nat} (h:Mk S S' ks):S'.r0=S.r0:=by unfold Spa.r0;rw[h.room]
abbrev Nd:=UInt8×List Nat×List Nat×List Nat
def k8B (l:List Nat):List UInt8:=l.flatMap (le 8)
theorem uy:∀ l:List Nat,(k8B l).length=8*l.length
 |[]=>rfl
 |x::r=>by
  have:=uy r;unfold k8B at this ⊢;rw[flatMap_cons,length_append,zx,this,length_cons];omega
def xP:List Nat->Bool
 |[]=>true
 |[_]=>true
 |x::y::r=>decide (x<y)&&xP (y::r)
inductive qW:Page->Nd->Prop
 |refs (ks kids:List Nat):ks.length=kids.length->1<=ks.length->xP ks=true->(∀ k∈ks,k<18446744073709551616)->qW ((5:UInt8),kids,mkB (k8B ks)) ((5:UInt8),ks,[],kids)
 |inner (ks kids:List Nat):ks.length=kids.length->2<=ks.length->xP ks=true->(∀ k∈ks,k<18446744073709551616)->qW ((3:UInt8),kids,mkB (k8B ks)) ((3:UInt8),ks,[],kids)
 |leaf (k v:Nat):k<18446744073709551616->v<18446744073709551616->qW ((4:UInt8),[],mkB (k8B [k,v])) ((4:UInt8),[k],[v],[])
theorem qO:∀ {l:List Nat},xP l=true↔∀ i,i+1<l.length->l.getD i 0<l.getD (i+1) 0
 |[]=>by simp[xP]
 |[_]=>by simp[xP]
 |x::y::r=>by
  have ih:=qO (l:=y::r);simp only [xP,Bool.and_eq_true,decide_eq_true_iff];constructor
  ·rintro⟨h1,h2⟩ i hi;cases i with
   |zero=>exact h1
   |succ i=>exact ih.1 h2 i (by simpa using hi)
  ·intro h;exact⟨h 0 (by simp),ih.2 fun i hi=>h (i+1) (by simpa using hi)⟩
theorem zc0 {l:List Nat} (h:xP l=true):∀ (d i:Nat),i+d+1<l.length->l.getD i 0<l.getD (i+d+1) 0
 |0,i,hi=>qO.1 h i hi
 |d+1,i,hi=>Nat.lt_trans (zc0 h d i (by omega)) (qO.1 h (i+d+1) (by omega))
theorem ziL {l:List Nat} (h:xP l=true) (n:Nat):xP (l.take n)=true:=by
 rw[qO]at h ⊢;intro i hi;rw[length_take]at hi;have e:∀ j,j<n->(l.take n).getD j 0=l.getD j 0:=fun j hj=>by rw[getD_eq_getElem?_getD,List.getElem?_take,if_pos hj,<- getD_eq_getElem?_getD]
 rw[e i (by omega),e (i+1) (by omega)];exact h i (by omega)
theorem ziM {l:List Nat} (h:xP l=true) (n:Nat):xP (l.drop n)=true:=by
 rw[qO]at h ⊢;intro i hi;rw[length_drop]at hi;have e:∀ j,(l.drop n).getD j 0=l.getD (n+j) 0:=fun j=>by rw[getD_eq_getElem?_getD,List.getElem?_drop,<- getD_eq_getElem?_getD]
 rw[e i,e (i+1)];exact h (n+i) (by omega)
def jx (S:Spa) (n:Nat) (ks vs:List Nat):Prop:=S.page n=(((5:UInt8),vs,mkB (k8B ks)),0)/\ks.length=vs.length/\1<=ks.length/\xP ks=true/\∀ k∈ks,k<18446744073709551616
inductive qi (S:Spa) (n:Nat) (ks vs:List Nat):Prop
 |one:jx S n ks vs->qi S n ks vs
 |two (m a b:Nat):1<=m->m<ks.length->ks.length=vs.length->xP ks=true->(∀ k∈ks,k<18446744073709551616)->S.page n=(((3:UInt8),[a,b],mkB (k8B [ks.getD 0 0,ks.getD m 0])),0)->
   jx S a (ks.take m) (vs.take m)->jx S b (ks.drop m) (vs.drop m)->qi S n ks vs
theorem jx.ok {S:Spa} {n:Nat} {ks vs:List Nat} (h:jx S n ks vs):qW (S.page n).1 ((5:UInt8),ks,[],vs):=by
 rw[h.1];exact qW.refs ks vs h.2.1 h.2.2.1 h.2.2.2.1 h.2.2.2.2
theorem jx.keep {S S':Spa} {n:Nat} {ks vs:List Nat} (h:jx S n ks vs) (e:S'.page n=S.page n):jx S' n ks vs:=by
 unfold jx;rw[e];exact h
theorem qi.len {S:Spa} {n:Nat} {ks vs:List Nat} (h:qi S n ks vs):ks.length=vs.length:=by
 cases h with
 |one h=>exact h.2.1
 |two m a b h1 h2 h3=>exact h3
theorem qi.keep {S S':Spa} {n:Nat} {ks vs:List Nat} (h:qi S n ks vs) (hp:∀ k,k=n\/k∈zU S.page n->S'.page k=S.page k):qi S' n ks vs:=by
 cases h with
 |one h=>exact .one (h.keep (hp n (.inl rfl)))
 |two m a b h1 h2 h3 h4 h5 h6 h7 h8=>
  have hk:zU S.page n=[a,b]:=by unfold zU;rw[h6]
  rw[hk]at hp;exact .two m a b h1 h2 h3 h4 h5 ((hp n (.inl rfl)).trans h6) (h7.keep (hp a (.inr (by simp)))) (h8.keep (hp b (.inr (by simp))))
theorem qi.mk_ {S S':Spa} {n:Nat} {ks vs ls R:List Nat} (h:qi S n ks vs) (hm:Mk S S' ls) (hg:Good S R) (hu:zE S.sup.pages S.now n=true):qi S' n ks vs:=
 h.keep (fun k hk=>by
  rcases hk with rfl|hk
  ·exact(hm.used hg hu).1
  ·exact(hm.used hg ((hg.well.good n hu).2 k hk)).1)
end V
/- Contracts of the package tree:words,parse,get. -/
namespace V
open Go Go.Proofs Go.RowKit Crc
theorem kO:jI prog 129 42 (.int .u64 0) 1 8:=⟨by kernel_rfl,by kernel_rfl,by kernel_rfl⟩
theorem zjj:∀ (ks:List Nat) (i:Nat),i<ks.length->((k8B ks).drop (8*i)).take 8=le 8 (ks.getD i 0)
 |[],i,h=>by simp at h
 |k::r,0,h=>by
  unfold k8B;rw[flatMap_cons,Nat.mul_zero,List.drop_zero,take_left' (zx 8 k)];rfl
 |k::r,i+1,h=>by
  have ih:=zjj r i (by simpa using h);unfold k8B at ih ⊢;rw[flatMap_cons,show 8*(i+1)=8+8*i by omega,<- drop_drop,drop_left' (zx 8 k),ih];rfl
theorem ziN {w:World} {s:ByteArray} {ks:List Nat} (hs:B s=k8B ks) (h64:∀ k∈ks,k<18446744073709551616) (hn:ks.length<=10000):
  Calls prog 217 #[.string s] w (Ret fun v w'=>∃ A c,v=.tuple #[.slice A ks.length c,.bool true]/\Owni (zv .u64) 42 w' w.heap.size A ks.length c ks/\Ext w w'):=by
 have hss:s.size=8*ks.length:=by rw[yi,hs,uy]
 apply znh;unfold S217;refine zq fun r1 w1 hb1 he1 hr1 hz1=>?_;refine vf (u:=.string) (e:=5) (by kernel_rfl) (by kernel_rfl) (by kernel_rfl) (by omega) ?_;intro cc w2 hsl he2 hs2 hcc;refine zb (zhh (k:=8) (by omega) hcc (by dsimp only;omega)) ?_;rintro v w3 ⟨hit,hRc,hs3,he3⟩;refine⟨v,rfl,?_⟩;dsimp only at hit hRc;have he:=(he1.trans he2).trans he3;have hsl:=hsl.ext he3;have hb1:=hb1.ext (he2.trans he3);have hcn:(qy 1 (some ⟨w1.heap.size,0,none⟩) s.size 8).length=ks.length:=by rw[xM];unfold yt;omega
 refine za4 (R:=zda w2.heap.size (w2.heap.size+1) (some ⟨w1.heap.size,0,none⟩) s.size cc 8) (fun i w'=>Ext w w'/\zda w2.heap.size (w2.heap.size+1) (some ⟨w1.heap.size,0,none⟩) s.size cc 8 w'/\Sl w' (some ⟨w1.heap.size,0,none⟩) s.size (bV (B s))/\∃ A c,Blk w' r1 [.slice A i c] 129/\Owni (zv .u64) 42 w' (w3.heap.size+2) A i c (ks.take i)) hit (fun i w' hI=>hI.2.1) (fun i w' hI=>⟨hI.1.drew,hI.2⟩) ?_ ?_ ?_ ?_
 ·rintro i w' w'' hsb ⟨e1,⟨e2,e3⟩,e6,A,c,e4,e5⟩;have hkeep:∀ j:Nat,j<w3.heap.size->w''.heap[j]?=w'.heap[j]?:=fun j hj=>hsb.2.2.2.2 j (by omega) (by omega);refine⟨e1.qd hsb (by omega) (by omega),⟨(hkeep _ (by omega)).trans e2,(hkeep _ (by omega)).trans e3⟩,⟨e6.1,e6.2.1,fun hn=>?_⟩,A,c,(hkeep _ (by omega)).trans e4,e5.qd hsb (by omega) (by omega)⟩;obtain⟨a,ha,hcell⟩:=e6.2.2 hn;refine⟨a,ha,fun j v hj=>?_⟩;injection ha with ha
  subst ha;have:=hcell j v hj;rw[zC]at this ⊢;simp only [World.cell?]at this ⊢;rw[hkeep _ (by omega)];exact this
 ·intro o;have hx:=((Ext.refl w3).alloc (.deferred (some []))).alloc o;exact⟨he.trans hx,⟨hRc.1.ext hx,hRc.2.ext hx⟩,hsl.ext hx,none,0,hb1.ext hx,Owni.nil _ _ _⟩
 ·rintro i hi w' N jump ⟨e1,⟨e2,e3⟩,e6,A,c,e4,e5⟩ hsz' hN;rw[hcn]at hi;have hcut:(qy 1 (some ⟨w1.heap.size,0,none⟩) s.size 8)[i]'(by rw[hcn];exact hi)=[.slice (zo (some ⟨w1.heap.size,0,none⟩) (i*8) (i*8+8) 1) 8 8]:=by
   have:min 8 (s.size-i*8)=8:=by omega
   simp[qy,this]
  refine⟨((zo (some ⟨w1.heap.size,0,none⟩) (i*8) (i*8+8) 1,8,8),()),hcut.symm,?_⟩;dsimp only;have hsub:=e6.cut (l:=i*8) (k:=8) (m:=i*8+8) (by omega) (by omega);rw[vF,jf,hs,Nat.mul_comm i 8,zjj ks i hi,Nat.mul_comm 8 i]at hsub;refine zK fun w4 he4 hz4 hh4=>?_;have f4:=e4.ext he4;have f5:=e5.ext he4;refine zl (x:=(A,i,c)) f4 (by rfl) ?_;refine zb (qT (hsub.ext he4) (by omega)) ?_;rintro _ w5 ⟨rfl,he5⟩;have hk:ks.getD i 0<18446744073709551616:=by
   rw[getD_eq_getElem?_getD,List.getElem?_eq_getElem hi];exact h64 _ (getElem_mem _)
  refine⟨_,rfl,?_⟩;rw[uR,Nat.mod_eq_of_lt (by exact hk)];have f4:=f4.ext he5;have f5:=f5.ext he5;refine xO (yh f4 rfl) ?_;have he45:=he4.trans he5;have hz45:=he45.size;refine zq fun r12 w6 hb6 he6 hr6 hz6=>?_;refine xO (yh (f4.ext he6) rfl) ?_;have f4:=f4.ext he6;have f5:=f5.ext he6;have hx:Sli (zv .u64) w6 (some ⟨r12,0,none⟩) 1 [ks.getD i 0]:=Sli.xC (E:=zv .u64) (xs:=[ks.getD i 0]) hb6 rfl (by omega);refine xu kO f5 (by omega) hx (by dsimp only;omega) (by omega) ?_;intro A2 c2 w7 ho7 hg7 _;have hr1l:r1<w3.heap.size:=by have:=hb1.lt;omega
  have f4:Blk w7 r1 _ _:=f4.grown hg7.grown (fun hh=>by have:=f5.row _ hh.symm;omega);refine zQ f4 (by simp) ?_;have hset:=f4.set 0 (.slice A2 (i+1) c2);have he46:=he45.trans he6;have e7:Ext w w7:=(e1.trans he46).grown hg7.grown (fun j hj=>by have:=f5.row j hj;omega);have hx7:∀ k,k<w3.heap.size+2->w7.heap[k]?=w'.heap[k]?:=fun k hk=>by
   rw[hg7.grown.block k (by omega) (fun hh=>by have:=f5.row _ hh.symm;omega)];exact he46.block k (by omega)
  have hx8:∀ k,k<w3.heap.size+2->k≠r1->(w7.setCell ⟨r1,0,none⟩ (.slice A2 (i+1) c2)).heap[k]?=w'.heap[k]?:=fun k hk hne=>by
   rw[Below.heap_setCell _ _ _ _ (fun e=>hne e)];exact hx7 k hk
  have hg8:=hg7.grown.size;refine hN _ ⟨e7.set (by simp only;omega) _,⟨?_,?_⟩,⟨e6.1,e6.2.1,fun hn=>?_⟩,A2,c2,hset,?_⟩ ?_ ?_
  ·exact(hx8 _ (by omega) (by omega)).trans e2
  ·exact(hx8 _ (by omega) (by omega)).trans e3
  ·obtain⟨a,ha,hcell⟩:=e6.2.2 hn;refine⟨a,ha,fun j v hj=>?_⟩;injection ha with ha
   subst ha;have:=hcell j v hj;rw[zC]at this ⊢;simp only [World.cell?]at this ⊢;rw[hx8 _ (by omega) (by omega)];exact this
  ·have e9:ks.take (i+1)=ks.take i++[ks.getD i 0]:=by
    rw[take_succ_eq_append_getElem hi,getD_eq_getElem?_getD,List.getElem?_eq_getElem hi];rfl
   rw[e9];refine ho7.grown (row:=some r1) ⟨rfl,rfl,rfl,by simp,fun k hk hne=>Below.heap_setCell _ _ _ _ (fun e=>hne (by rw[e]))⟩ (fun j hj he=>?_);injection hj with hj
   have:=ho7.row _ he;omega
  ·have:=he46.size;simp;omega
  ·intro k hk;exact hx8 k (by omega) (by omega)
 ·rintro w' ⟨e1,⟨e2,e3⟩,e6,A,c,e4,e5⟩ hsz' hd;rw[hcn]at e4 e5;rw[take_of_length_le (by omega)]at e5;have hr1l:r1<w3.heap.size:=by have:=hb1.lt;omega
  show(ldW _ _ _) w';refine zl (x:=(A,ks.length,c)) e4 (by rfl) ?_;dsimp only;refine zQ e4 (by simp) ?_;have hset:=e4.set 0 (.slice A ks.length c);refine jg (by rw[Below.heap_setCell _ _ _ _ (by simp only;omega)];exact hd) ?_;refine zl (x:=(A,ks.length,c)) (show Blk _ r1 [.slice A ks.length c] 129 from(zR (by omega)).trans hset) (by rfl) ?_;refine⟨A,c,?_,?_,(e1.set (by simp only;omega) _).yE (by omega) _⟩
  ·rw[show Int.tmod ((s.size:Nat):Int) 8=0 by rw[hss,show((8*ks.length:Nat):Int)=8*(ks.length:Int) by omega,Int.mul_tmod_right]];rfl
  have e6:=e5.grown (w':=w'.setCell ⟨r1,0,none⟩ (.slice A ks.length c)) (row:=some r1) ⟨rfl,rfl,rfl,by simp,fun k hk hne=>Below.heap_setCell _ _ _ _ (fun e=>hne (by rw[e]))⟩ (fun j hj he=>by
   injection hj with hj
   have:=e5.row _ he
   omega)
  have e7:Owni (zv .u64) 42 (yE (w'.setCell ⟨r1,0,none⟩ (.slice A ks.length c)) w3.heap.size (.deferred none)) (w3.heap.size+2) A ks.length c ks:=
   e6.qd (z8 (b:=w3.heap.size) (.inl rfl)) (by omega) (by omega)
  exact e7.lower (by omega)
end V
/- Contracts of the package tree:parse. -/
namespace V
open Go Go.Proofs Go.RowKit Crc
theorem Owni.sDf {α:Type} {E:Enc α} {e:TypeId} {Bd:Nat} {w w':World} {B:Nat} {A:Option Addr} {n c:Nat} {xs:List α} (h:Owni E e w B A n c xs) (hs:zeF Bd w w'):Owni E e w' B A n c xs:=by
 refine⟨h.1,?_⟩;rcases h.2 with hn|⟨g,cap,cur,hv,hb,hgg,rest⟩
 ·exact .inl hn
 ·exact .inr ⟨g,cap,cur,hv,hb,(hs.2.2.2.2 g (.inr (by rw[hgg];simp))).trans hgg,rest⟩
def ndV (t:UInt8) (x y z:SLC):List Value:=[.int .u8 (t.toNat:Int),.slice x.1 x.2.1 x.2.2,.slice y.1 y.2.1 y.2.2,.slice z.1 z.2.1 z.2.2]
abbrev qX:List Lf:=[.int .u8,.slc,.slc,.slc]
def ndT (t:UInt8) (x y z:SLC):Int×SLC×SLC×SLC×Unit:=((t.toNat:Int),x,y,z,())
theorem jj (t:UInt8) (x y z:SLC):∀ v∈ndV t x y z,v.oneCell'=true:=by
 intro v hv;simp only [ndV,mem_cons,not_mem_nil,or_false]at hv;rcases hv with rfl|rfl|rfl|rfl<;>rfl
def zbT (r1 r2:Nat) (A:Option Addr) (n c k:Nat):WP:=fun w=>Blk w r1 [.slice A n c] 129/\Blk w r2 [.int .i64 (k:Int)] 3
theorem zgy {w:World} {A:Option Addr} {n c k:Nat} (hk:1<=k) (hnc:n<=c) (hnk:n+k<=9223372036854775807):Calls prog 218 #[.slice A n c,.int .i64 (k:Int)] w (Ret fun v w'=>Iter prog v (qy 1 A n k) (zbT w.heap.size (w.heap.size+1) A n c k)/\zbT w.heap.size (w.heap.size+1) A n c k w'/\w'.heap.size=w.heap.size+2/\Ext w w'):=by
 apply zni;unfold S218;refine zq fun r1 w1 hb1 he1 hr1 hz1=>?_;refine zq fun r2 w2 hb2 he2 hr2 hz2=>?_;subst hr1;have hr2:w.heap.size+1=r2:=by omega
 subst hr2;refine zl (x:=(k:Int)) hb2 (by rfl) ?_;refine zd (decide_eq_false (by omega)) ?_;refine⟨⟨_,_,rfl,by kernel_rfl,fun l J w' hJ hR hd hY=>?_⟩,⟨hb1.ext he2,hb2⟩,by omega,he1.trans he2⟩;apply znl;exact zbF (P:=prog) hk hnc hnk hJ hR hd hY
structure zaO (w:World) (N:Nat) (d:Nd) (x y z:SLC):Prop where
 ks:Owni (zv .u64) 42 w N x.1 x.2.1 x.2.2 d.2.1
 vs:Owni (zv .u64) 42 w N y.1 y.2.1 y.2.2 d.2.2.1
 kids:Sli (zv .u32) w z.1 z.2.1 d.2.2.2
theorem ziO {w:World} {p:Page} {d:Nd} {y:SLC} (hd:qW p d) (hs:Sli (zv .u32) w y.1 y.2.1 p.2.1) (hn:d.2.1.length<=5000):
  Calls prog 202 #[.agg (pgV p y).toArray] w (Ret fun v w'=>∃ x z,v=.tuple #[.agg (ndV d.1 x z y).toArray,.int .i64 0]/\zaO w' w.heap.size d x z y/\Ext w w'):=by
 apply zm7;unfold S202;refine zq fun r1 w1 hb1 he1 hr1 hz1=>?_;refine zq fun r2 w2 hb2 he2 hr2 hz2=>?_;have hb1:Blk w2 r1 (pgV p y) 56:=hb1.ext he2;refine zm 2 p.2.2 hb1 (by rfl) ?_;have hkid:d.2.2.2=p.2.1:=by cases hd<;>rfl
 obtain⟨ks0,hks0,hB,hk64,hk0⟩:∃ ks0:List Nat,ks0=d.2.1++d.2.2.1/\B p.2.2=k8B ks0/\(∀ k∈ks0,k<18446744073709551616)/\ks0.length<=5000:=by
  cases hd with
  |refs ks kids h1 h2 h3 h4=>exact⟨ks,by simp,xv _,h4,hn⟩
  |inner ks kids h1 h2 h3 h4=>exact⟨ks,by simp,xv _,h4,hn⟩
  |leaf k v h1 h2=>exact⟨[k,v],rfl,xv _,fun q hq=>by
    simp only [mem_cons,not_mem_nil,or_false]at hq
    rcases hq with rfl|rfl
    ·exact h1
    ·exact h2,by simp⟩
 refine zb (ziN hB hk64 (by omega)) ?_;rintro _ w3 ⟨A,c,rfl,ho,he3⟩;refine⟨((A,ks0.length,c),true,()),rfl,?_⟩;have hb1:=hb1.ext he3;have hb2:=hb2.ext he3;refine zF ((p.1.toNat:Nat):Int) hb1 (by rfl) ?_;refine zm 1 y hb1 (by rfl) ?_;dsimp only;have hlt1:=hb1.lt;have hlt2:=hb2.lt;have hs2:=he2.size;have hs3:=he3.size;have he:=(he1.trans he2).trans he3;refine refill (vs:=ndV p.1 (A,ks0.length,c) (none,0,0) y) hb2 (by rfl) (jj _ _ _ _) (by rfl) ?_;intro w4 hb2 hx4 hk4 hz4;have he4:Ext w w4:=hx4 w he (by omega);have hb1:Blk w4 r1 (pgV p y) 56:=(hk4 r1 (by omega)).trans hb1;have ho4:Owni (zv .u64) 42 w4 (r2+1) A ks0.length c ks0:=by
  refine(ho.only (F:=fun k=>k=r2) ⟨?_,?_,?_,Nat.le_of_eq hz4.symm,fun k _ hk=>hk4 k hk⟩ (fun j hj e=>by have:=ho.row j hj;have:j=r2:=e;omega)).lower (by omega)
  ·exact(hx4 w he (by omega)).os.trans he.os.symm
  ·exact(hx4 w he (by omega)).tape.trans he.tape.symm
  ·exact(hx4 w he (by omega)).output.trans he.output.symm
 have hs4:=hs.ext he4;have hsn:=hs.len;refine yu (fun(t:Bool×Int×List Deferred×Unit) w'=>∃ (x z:SLC) (m:Nat),t=(true,(m:Int),t.2.2.1,())/\m<=d.2.1.length/\Ext w w'/\Blk w' r2 (ndV d.1 x z y) 215/\zaO w' (r2+1) d x z y/\Dfs w.heap.size w' t.2.2.1) ?_ (fun J hJ=>?_);rotate_left
 ·refine zF ((p.1.toNat:Nat):Int) hb1 (by rfl) ?_;cases hd with
  |refs ks kids h1 h2 h3 h4=>
   obtain rfl:ks0=ks:=by rw[hks0];simp
   refine zd (by rfl) (zd (by rfl) (zf (by rfl) (zf (by rfl) ?_)));refine zm 1 y hb1 (by rfl) ?_;refine hJ _ _ ⟨(A,ks0.length,c),(none,0,0),1,?_,h2,he4,hb2,⟨ho4,Owni.nil _ _ _,hs4⟩,trivial⟩;rw[show((((ks0.length:Nat):Int)==((y.2.1:Nat):Int)))=true from beq_iff_eq.2 (by dsimp only at hsn;omega)];rfl
  |inner ks kids h1 h2 h3 h4=>
   obtain rfl:ks0=ks:=by rw[hks0];simp
   refine zd (by rfl) (zf (by rfl) (zf (by rfl) ?_));refine zm 1 y hb1 (by rfl) ?_;refine hJ _ _ ⟨(A,ks0.length,c),(none,0,0),2,?_,h2,he4,hb2,⟨ho4,Owni.nil _ _ _,hs4⟩,trivial⟩;rw[show((((ks0.length:Nat):Int)==((y.2.1:Nat):Int)))=true from beq_iff_eq.2 (by dsimp only at hsn;omega)];rfl
  |leaf k v h1 h2=>
   obtain rfl:ks0=[k,v]:=hks0;refine zf (by rfl) ?_;refine stE (o:=1) hb2 (by rw[zC]) (by show 1<4;omega) ?_;intro w5 hb25 o5;have he5:Ext w w5:=Only.ext he4 o5 (fun j hj=>by have:j=r2:=hj;omega);have hb15:=hb1.only o5 (show ¬r1=r2 by omega);have ho5:=ho4.only o5 (fun j hj e=>by have:=ho4.row j hj;have:j=r2:=e;omega);have hA:=ho5.le;refine zb (zgy (k:=2) (by omega) (show 2<=c from hA.1) (by omega)) ?_;rintro vv w6 ⟨hit,hRc,hs6,he6⟩;refine⟨vv,rfl,?_⟩;dsimp only at hit hRc hb25;have hb26:=hb25.ext he6;have hb16:=hb15.ext he6;have ho6:=ho5.ext he6;have hw5:=he5.size;have hl25:=hb25.lt;have hl15:=hb15.lt;have hAl:∀ j,orow A=some j->j<w5.heap.size:=ho5.ye;have hcn:(qy 1 A 2 2).length=1:=by rw[xM];rfl
   refine za4 (R:=zbT w5.heap.size (w5.heap.size+1) A 2 c 2) (fun i w'=>Ext w w'/\zbT w5.heap.size (w5.heap.size+1) A 2 c 2 w'/\Sli (zv .u64) w' A 2 [k,v]/\Blk w' r1 (pgV ((4:UInt8),[],mkB (k8B [k,v])) y) 56/\∃ x z:SLC,(i=0->x=(none,0,0)/\z=(none,0,0))/\True/\Blk w' r2 (ndV 4 x z y) 215/\Owni (zv .u64) 42 w' (w6.heap.size+2) x.1 x.2.1 x.2.2 ([k].take i)/\Owni (zv .u64) 42 w' (w6.heap.size+2) z.1 z.2.1 z.2.2 ([v].take i)) hit (fun i w' hI=>hI.2.1) (fun i w' hI=>⟨hI.1.drew,hI.2⟩) ?_ ?_ ?_ ?_
   ·rintro i w' w'' hsb ⟨e1,⟨e2,e3⟩,e4,e5,x,z,x1,z1,e6,e7,e8⟩;have hkeep:∀ j:Nat,j<w6.heap.size->w''.heap[j]?=w'.heap[j]?:=fun j hj=>hsb.2.2.2.2 j (by omega) (by omega);exact⟨e1.qd hsb (by omega) (by omega),⟨(hkeep _ (by omega)).trans e2,(hkeep _ (by omega)).trans e3⟩,e4.congr (fun a ha=>hkeep _ (by have:=hAl a.block (by rw[ha];rfl);omega)),(hkeep _ (by omega)).trans e5,x,z,x1,z1,(hkeep _ (by omega)).trans e6,e7.qd hsb (by omega) (by omega),e8.qd hsb (by omega) (by omega)⟩
   ·intro o;have hx:=((Ext.refl w6).alloc (.deferred (some []))).alloc o;exact⟨(he5.trans he6).trans hx,⟨hRc.1.ext hx,hRc.2.ext hx⟩,ho6.sl.ext hx,hb16.ext hx,(none,0,0),(none,0,0),fun _=>⟨rfl,rfl⟩,trivial,hb26.ext hx,Owni.nil _ _ _,Owni.nil _ _ _⟩
   ·rintro i hi w' N jump ⟨e1,⟨e2,e3⟩,e4,e5,x,z,x1,z1,e6,e7,e8⟩ hsz' hN;have hi:i<1:=by simpa [xM,yt] using hi
    obtain rfl:i=0:=by omega
    obtain⟨rfl,rfl⟩:=x1 rfl;refine⟨((zo A 0 2 1,2,2),()),by simp[qy],?_⟩;dsimp only;have hsub:=e4.cut (l:=0) (k:=2) (m:=2) (z:=1) rfl (by omega) (by omega);rw[List.drop_zero,take_of_length_le (by simp)]at hsub;refine zK fun w7 he7 hz7 hh7=>?_;refine zm 1 ((none,0,0):SLC) (e6.ext he7) (by rfl) ?_;refine z6 (hsub.ext he7) (by omega) (by omega) ?_;refine zq fun r20 w8 hb8 he8 hr8 hz8=>?_;have he78:=he7.trans he8;refine xO (yS (e6.ext he78) rfl) ?_;have hx1:Sli (zv .u64) w8 (some ⟨r20,0,none⟩) 1 [k]:=Sli.xC (E:=zv .u64) (xs:=[k]) hb8 rfl (by omega);refine xu kO (Owni.nil 42 w8 (w6.heap.size+2)) (by have:=he78.size;omega) hx1 (by dsimp only;omega) (by omega) ?_;intro A2 c2 w9 ho9 hg9 _;have he9:Ext w' w9:=he78.none hg9.grown;refine stE (o:=1) (e6.ext he9) (by rw[zC]) (by show 1<4;omega) ?_;intro w10 hb10 o10;have hw9:=he9.size;have he10:∀ q,q<=r2->q<w6.heap.size->True:=fun _ _ _=>trivial;have hl26:=hb26.lt;refine zK fun w11 he11 hz11 hh11=>?_;refine zm 2 ((none,0,0):SLC) (hb10.ext he11) (by rfl) ?_;have hsub11:Sli (zv .u64) w11 (zo A 0 2 1) 2 [k,v]:=((hsub.ext he9).only o10 (fun a ha hh=>by
     have h2:orow A=some a.block:=by
      unfold zo at ha
      rw[if_neg (by omega)]at ha
      cases A with
      |none=>cases ha
      |some a0=>injection ha with ha;rw[<- ha];rfl
     have:=ho4.row _ h2
     have:a.block=r2:=hh
     omega)).ext he11
    rw[show wrap .i64 (((2:Nat):Int)-1)=1 from by decide];refine z6 hsub11 (by omega) (by omega) ?_;refine zq fun r25 w12 hb12 he12 hr12 hz12=>?_;have he1112:=he11.trans he12;refine xO (yS (hb10.ext he1112) rfl) ?_;have hx2:Sli (zv .u64) w12 (some ⟨r25,0,none⟩) 1 [v]:=Sli.xC (E:=zv .u64) (xs:=[v]) hb12 rfl (by omega);have hs10:=o10.2.2.2.1;have hs1112:=he1112.size;refine xu kO (Owni.nil 42 w12 (w6.heap.size+2)) (by omega) hx2 (by dsimp only;omega) (by omega) ?_;intro A3 c3 w13 ho13 hg13 _;have he13:Ext w10 w13:=he1112.none hg13.grown;refine stE (o:=2) (hb10.ext he13) (by rw[zC]) (by show 2<4;omega) ?_;intro w14 hb14 o14;have hs13:=he13.size;have hs14:=o14.2.2.2.1;have ho9':Owni (zv .u64) 42 w14 (w6.heap.size+2) A2 1 c2 [k]:=((ho9.only o10 (fun j hj e=>by have:=ho9.row j hj;have:j=r2:=e;omega)).ext he13).only o14 (fun j hj e=>by have:=ho9.row j hj;have:j=r2:=e;omega);have ho13':Owni (zv .u64) 42 w14 (w6.heap.size+2) A3 1 c3 [v]:=ho13.only o14 (fun j hj e=>by have:=ho13.row j hj;have:j=r2:=e;omega);have hall:∀ j,j<w'.heap.size->j≠r2->w14.heap[j]?=w'.heap[j]?:=fun j hj hne=>by
     rw[o14.2.2.2.2 j (by omega) hne,he13.block j (by omega),o10.2.2.2.2 j (by omega) hne,he9.block j hj]
    refine hN _ ⟨Only.ext (Only.ext (e1.trans he9) o10 (fun j hj=>by have:j=r2:=hj;omega) |>.trans he13) o14 (fun j hj=>by have:j=r2:=hj;omega),⟨(hall _ (by omega) (by omega)).trans e2,(hall _ (by omega) (by omega)).trans e3⟩,e4.congr (fun a ha=>?_),(hall _ (by omega) (by omega)).trans e5,(A2,1,c2),(A3,1,c3),fun e=>by omega,trivial,hb14,ho9',ho13'⟩ (by omega) (fun q hq=>hall q (by omega) (by omega));have h2:orow A=some a.block:=by rw[ha];rfl
    have h3:=hAl _ h2;have:=ho4.row _ h2;exact hall _ (by omega) (by omega)
   ·rintro w' ⟨e1,⟨e2,e3⟩,e4,e5,x,z,x1,z1,e6,e7,e8⟩ hsz' hd;rw[show(qy 1 A [k,v].length 2).length=1 by simp[xM,yt]]at e7 e8;show(za _ _ _) w';refine zf (by rfl) (zf (show(Int.tmod ((2:Nat):Int) 2==0)=true by decide) ?_);refine zm 1 y e5 (by rfl) ?_;refine hJ _ _ ⟨x,z,1,?_,by simp,e1,e6,⟨e7.lower (B':=r2+1) (by omega),e8.lower (B':=r2+1) (by omega),hs.ext e1⟩,⟨_,rfl,by omega,hd,by simp,trivial⟩⟩;rw[show(((y.2.1:Nat):Int)==0)=true from beq_iff_eq.2 (by have:0=y.2.1:=hsn;omega)];rfl
 rintro t w5 ⟨x,z,m,et,hm,he5,k2,hN,hD⟩;have hrise:xP d.2.1=true:=by
  cases hd with
  |refs ks kids h1 h2 h3 h4=>exact h3
  |inner ks kids h1 h2 h3 h4=>exact h3
  |leaf k v h1 h2=>rfl
 have hxl:=hN.ks.len;rw[et];dsimp only;refine zw (fun t' w'=>∃ i:Nat,1<=i/\i<=d.2.1.length+1/\t'=(true,(i:Int),())/\Ext w w'/\Blk w' r2 (ndV d.1 x z y) 215/\zaO w' (r2+1) d x z y/\Dfs w.heap.size w' t.2.2.1) (fun t'=>(d.2.1.length+1-t'.2.1).toNat) ⟨1,by omega,by omega,rfl,he5,k2,hN,hD⟩ ?_;rintro _ w6 ⟨i,hi1,hi,rfl,he6,k2,hN,hD⟩;dsimp only;refine zm 1 x k2 (by rfl) ?_
 by_cases hlt:i<x.2.1
 ·refine zf (decide_eq_true (by omega)) ?_;refine zK fun w7 he7 hz7 hh7=>?_;have k27:=k2.ext he7;refine zf rfl ?_;refine zm 1 x k27 (by rfl) ?_;rw[show wrap .i64 ((i:Int)-1)=((i-1:Nat):Int) by rw[wrap_i64 (by omega) (by omega)];omega];refine z6 (hN.ks.sl.ext he7) (by omega) (by omega) ?_;refine zm 1 x k27 (by rfl) ?_;refine z6 (hN.ks.sl.ext he7) (by omega) (by omega) ?_;rw[Int.toNat_natCast,Int.toNat_natCast];have:=qO.1 hrise (i-1) (by omega);rw[show i-1+1=i by omega]at this;refine⟨⟨i+1,by omega,by omega,?_,he6.trans he7,k27,⟨hN.ks.ext he7,hN.vs.ext he7,hN.kids.ext he7⟩,hD.kept fun k h1 _=>he7.heap h1⟩,?_⟩
  ·rw[show decide (((d.2.1.getD (i-1) 0:Nat):Int)<((d.2.1.getD i 0:Nat):Int))=true from decide_eq_true (by omega),wrap_i64 (by omega) (by omega)];rfl
  ·rw[wrap_i64 (by omega) (by omega)];omega
 ·refine zd (decide_eq_false (by omega)) ?_;refine zd (by rfl) ?_;refine zm 1 x k2 (by rfl) ?_;refine zd (decide_eq_false (by omega)) ?_;refine zZ (ls:=qX) (ndT d.1 x z y) k2 (by rfl) ?_;refine refill (vs:=ndV d.1 x z y) k2 (by rfl) (jj _ _ _ _) (by rfl) ?_;intro w7 k27 hx7 hk7 hz7;have he7:Ext w w7:=hx7 w he6 (by omega);have o7:Only (fun k=>k=r2) w6 w7:=⟨he7.os.trans he6.os.symm,he7.tape.trans he6.tape.symm,he7.output.trans he6.output.symm,Nat.le_of_eq hz7.symm,fun k _ hk=>hk7 k hk⟩;have hN7:zaO w7 (r2+1) d x z y:=⟨hN.ks.only o7 (fun j hj e=>by have:=hN.ks.row j hj;have:j=r2:=e;omega),hN.vs.only o7 (fun j hj e=>by have:=hN.vs.row j hj;have:j=r2:=e;omega),hkid▸hs.ext he7⟩;refine zfX _ w7 (hD.kept fun k h1 _=>by
   by_cases e:k=r2
   ·subst e
    have:=k2
    unfold Blk at this
    rw[h1]at this
    cases this
   ·exact(hk7 k e).trans h1) fun w8 hs8=>?_
  refine zZ (ls:=qX) (ndT d.1 x z y) (k27.zeG hs8) (by rfl) ?_;refine⟨x,z,rfl,⟨(hN7.ks.sDf hs8).lower (by omega),(hN7.vs.sDf hs8).lower (by omega),hkid▸hs.ext (he7.zeG hs8)⟩,he7.zeG hs8⟩
end V
/- Spaces of one's own:contracts,short. -/
namespace V
open Go Go.Proofs Go.RowKit Crc
def At (w0 w:World) (b db:Nat) (S:Spa):Prop:=∃ F,yb w b db S F/\(∀ k,F k->w0.heap.size<=k)/\Ext w0 w
variable {w0 w w':World} {b db:Nat} {S:Spa} {R:List Nat}
theorem zgM {size blocks:Int} (h:yc size blocks=true):vo (zd5 size blocks):=⟨zjd h,rfl⟩
theorem zlw {w1:World} {d:Dev} {db:Nat} (h:zho w0 d db w1) (hd:vo d) (hpen:d.pen.length<=800000):
  Calls prog 69 #[.pointer (some ⟨db,0,none⟩)] w1 (Ret fun v w'=>((yG d).2≠0/\v=.tuple #[.pointer none,.int .i64 (yG d).2]/\Ext w0 w')\/((yG d).2=0/\∃ b,v=.tuple #[.pointer (some ⟨b,0,none⟩),.int .i64 0]/\At w0 w' b db (qu d))):=by
 obtain⟨F,h1,h2,hx⟩:=h;refine(zhC h1 hpen).mono (Ret.mono ?_);rintro v w' (⟨q1,rfl,F',q2,q3,q4⟩|⟨q1,b,F',rfl,q2,q3,q4,q5⟩)
 ·exact .inl ⟨q1,rfl,Only.ext hx q4 h2⟩
 ·refine .inr ⟨q1,b,rfl,F',q2,fun k hk=>?_,Only.ext hx q5 h2⟩;rcases q4 k hk with e|e
  ·exact h2 k e
  ·exact Nat.le_trans hx.size e
end V
/- Spaces of one's own,short:Commit,Open,Root,Format of nothing. -/
namespace V
open Go Go.Proofs Go.RowKit Crc
variable {w0 w w':World} {b db:Nat} {S:Spa} {R H:List Nat} {M:Option (List Nat)}
end V
/- Contracts of the package space:Abort,Mark,Back,Done,Gen. -/
namespace V
open Go Go.Proofs Go.RowKit Crc
variable {w w':World} {b db:Nat} {S:Spa} {F Fd:Nat->Prop} {x:SLC} {hb hr nb nr:Nat} {m:MkL}
end V
/- Great spaces:contracts,short,by the blocks that they own. -/
namespace V
open Go Go.Proofs Go.RowKit Crc
variable {w w':World} {b db:Nat} {S:Spa} {F:Nat->Prop} {R H:List Nat} {M:Option (List Nat)}
theorem zlx (h:yb w b db S F):∀ n,S.now.getD n 0<65536:=by
 obtain⟨Fd,x,hb,hr,nb,nr,m,h⟩:=h;exact fun n=>(zli h n).1
theorem zhH (h:yb w b db S F) {n:Nat} (hn:n<4294967296):Calls prog 88 #[.pointer (some ⟨b,0,none⟩),.int .u32 (n:Int)] w (Ret (zgK w (S.get n))):=by
 obtain⟨Fd,x,hb,hr,nb,nr,m,h⟩:=h;exact vk h hn
theorem zhI (h:yb w b db S F) (hg:Good S R) {x0:SLC} (hs:Sli (zv .u32) w x0.1 x0.2.1 R) (hx:∀ a,x0.1=some a->a.block<w.heap.size):
  Calls prog 32 #[.pointer (some ⟨b,0,none⟩),.slice x0.1 x0.2.1 x0.2.2] w (Ret fun v w'=>v=.int .i64 0/\Ext w w'):=by
 have hfit:=zlx h;obtain⟨Fd,x,hb,hr,nb,nr,m,h'⟩:=h;obtain⟨d,ys,s',v1,v2,v3,v4⟩:=zeW hg hfit;have hN:=hg.dims.n;refine(zdG h' (x0:=x0) hs (fun k hk=>by have:=hg.well.lt (hg.well.root k hk);omega) hx (fun p hp=>(hg.well.pgs p hp).2.1) v2 v3 v1).mono (Ret.mono ?_);rintro v w' ⟨rfl,he⟩;refine⟨?_,he⟩;rw[if_neg (by simp),if_pos v4]
def znU (S S':Spa) (p:Page) (R H:List Nat) (M:Option (List Nat)) (n:Nat) (e:Int):Prop:=
 (e=3/\n=0/\S'=S/\S.room p.2.1.length<(p.2.2.size:Int))\/(e=9/\n=0/\S'=S/\S.zY<=S.sup.pages.length)\/(e=0/\vn S S' p n/\Great S' (n::R) H M/\(∀ q∈S'.dev.pen,q∈S.dev.pen\/q.1=(n:Int))/\S.sup.pages.length<S.zY)
theorem zpT {S:Spa} {p:Page} (h:(S.put p).2.2=0):∀ q∈(S.put p).1.dev.pen,q∈S.dev.pen\/q.1=((S.put p).2.1:Int):=by
 revert h
 unfold Spa.put;split
 ·rename_i hq;intro h;exact absurd h hq
 ·split
  ·rename_i _ hq;intro h;exact absurd h hq
  ·split
   ·rename_i _ _ hq;intro h;exact absurd h hq
   ·intro _ q hq
    revert hq
    dsimp only;unfold yp;split
    ·exact fun hq=>.inl hq
    ·unfold Dev.write;split
     ·exact fun hq=>.inl hq
     ·split
      ·exact fun hq=>.inl hq
      ·intro hq;rcases mem_append.1 hq with e|e
       ·exact .inl e
       ·rw[mem_singleton.1 e];exact .inr rfl
theorem zly (h:yb w b db S F) {p:Page} {A:Option Addr} {n c:Nat} (hg:Great S (p.2.1++R) H M) (hpen:S.dev.pen.length<=900000) (hs:Sli (zv .u32) w A n p.2.1) (hA:∀ a,A=some a->¬F a.block) (ht:3<=p.1.toNat) (hk:(p.2.1.length:Int)<=S.room 0 / 4) (hds:p.2.2.size<=1000000000):
  Calls prog 24 #[.pointer (some ⟨b,0,none⟩),.agg (pgV p (A,n,c)).toArray] w (Ret fun v w'=>∃ (S':Spa) (k:Nat) (e:Int),v=.tuple #[.int .u32 (k:Int),.int .i64 e]/\znU S S' p R H M k e/\yD w b db F S' w'):=by
 obtain⟨Fd,x,hb,hr,nb,nr,m,h'⟩:=h;have hdim:=hg.good.dims;have hN:=hdim.n;have hsz:=hdim.size;have hroom:=hdim.room;have hku:∀ k∈p.2.1,zE S.sup.pages S.now k=true:=fun k hk=>hg.good.well.root k (mem_append_left _ hk);have hr0:S.room 0=S.sup.size-18:=by unfold Spa.room;rw[hroom,if_neg (by omega)];omega
 refine(zbO h' hg.good.h01 (by have:=hg.good.gen;omega) (by omega) p hs (fun k hk=>by
  have:=hg.good.well.lt (hku k hk)
  omega) hA hds).mono (Ret.mono ?_)
 rintro v w' ⟨rfl,hst⟩;refine⟨(S.put p).1,(S.put p).2.1,(S.put p).2.2,rfl,?_,hst⟩;have c1:¬(p.1.toNat<3\/p.2.1.length>65535\/∃ k∈p.2.1,S.asked k=false):=by
  rintro(e|e|⟨k,hk,e⟩)
  ·omega
  ·omega
  ·rw[(ql hg.good (hku k hk)).1]at e;cases e
 have c2:¬ ∃ k∈p.2.1,S.now.getD k 0=0:=by
  rintro⟨k,hk,e⟩;exact(ql hg.good (hku k hk)).2.1 e
 by_cases hd:(p.2.2.size:Int)<=S.room p.2.1.length
 ·by_cases hf:S.sup.pages.length<S.zY
  ·obtain⟨g1,g2,g3⟩:=zlu hg ht hk hd hf;exact .inr (.inr ⟨g1,g2,g3,zpT g1,hf⟩)
  ·have hE:S.jS p=9:=by
    unfold Spa.jS;rw[if_neg c1,if_neg c2,if_neg (by rintro(e|e)<;>omega),if_pos (by omega)]
   have hP:S.put p=(S,0,9):=by unfold Spa.put;rw[if_pos (by rw[hE];decide),hE]
   rw[hP];exact .inr (.inl ⟨rfl,rfl,rfl,by omega⟩)
 ·have hE:S.jS p=3:=by
   unfold Spa.jS;rw[if_neg c1,if_neg c2,if_pos (.inr (by omega))]
  have hP:S.put p=(S,0,3):=by unfold Spa.put;rw[if_pos (by rw[hE];decide),hE]
  rw[hP];exact .inl ⟨rfl,rfl,rfl,by omega⟩
theorem zjk (h:yb w b db S F) {n:Nat} (hg:Great S (n::R) H M):Calls prog 28 #[.pointer (some ⟨b,0,none⟩),.int .u32 (n:Int)] w (Ret fun v w'=>v=.int .i64 0/\∃ c':List Nat,Great { S with now:=c' } R H M/\yD w b db F { S with now:=c' } w'/\Drp S.asked S.page S.now [n] c' 0/\∀ k,c'.getD k 0<=S.now.getD k 0):=by
 obtain⟨Fd,x,hb,hr,nb,nr,m,h'⟩:=h;obtain⟨c',d1,d2,d3,d4⟩:=zlt hg.good;have hu:=hg.good.well.root n (by simp);have hnN:=hg.good.well.lt hu;have hN:=hg.good.dims.n;refine(zeT h' (n:=n) (by omega) (c':=c') (e:=0) (fun _=>d1) (fun e=>by rw[(ql hg.good hu).1]at e;cases e)).mono (Ret.mono ?_);rintro v w' ⟨rfl,hS,hO⟩;exact⟨rfl,c',hg.less d2 d4,⟨F,hS.zfy,fun k hk=>.inl hk,hO⟩,d1,d4⟩
theorem zhJ (h:yb w b db S F) {n:Nat} (hg:Great S R H M) (hu:zE S.sup.pages S.now n=true) (h6:S.now.getD n 0<65535):
  Calls prog 90 #[.pointer (some ⟨b,0,none⟩),.int .u32 (n:Int)] w (Ret fun v w'=>v=.int .i64 0/\Great { S with now:=S.now.set n (S.now.getD n 0+1) } (n::R) H M/\yD w b db F { S with now:=S.now.set n (S.now.getD n 0+1) } w'):=by
 obtain⟨Fd,x,hb,hr,nb,nr,m,h'⟩:=h;obtain⟨s1,s2,s3⟩:=zkh hg.good hu h6;have hnN:=hg.good.well.lt hu;have hN:=hg.good.dims.n;refine(ziE h' (n:=n) (by omega)).mono (Ret.mono ?_);rintro v w' ⟨rfl,hS,hO⟩;rw[s1];rw[s3]at s2 hS;exact⟨rfl,hg.more hu s2,F,hS.zfy,fun k hk=>.inl hk,hO⟩
end V
/- Contracts of the package tree:get,look,Check. -/
namespace V
open Go Go.Proofs Go.RowKit Crc
variable {w w':World} {b db:Nat} {S:Spa} {F:Nat->Prop}
theorem uz (h:yb w b db S F) {n:Nat} (hn:n<4294967296) {p:Page} {d:Nd} (hg:S.get n=(p,0)) (hd:qW p d) (hl:d.2.1.length<=5000):
  Calls prog 166 #[.pointer (some ⟨b,0,none⟩),.int .u32 (n:Int)] w (Ret fun v w'=>∃ x z y,v=.tuple #[.agg (ndV d.1 x z y).toArray,.int .i64 0]/\zaO w' w.heap.size d x z y/\(∀ a,y.1=some a->w.heap.size<=a.block/\a.block<w'.heap.size)/\Ext w w'):=by
 apply zmO;unfold S166;refine zq fun r1 w1 hb1 he1 hr1 hz1=>?_;refine zb (zhH (h.ext he1) hn) ?_;rintro _ w2 ⟨y,rfl,ho,he2⟩;rw[hg]at ho ⊢;refine⟨(pgT p y,0,()),rfl,?_⟩;refine yz (vs:=pgV p y) (by rfl) (jB _ _) (fun r3 w3 hb3 he3 hr3=>?_) (by rfl);refine zd (by rfl) ?_;refine zZ (ls:=zfA) (pgT p y) hb3 (by rfl) ?_;have hb1:=(hb1.ext he2).ext he3;have he:=(he1.trans he2).trans he3;have hs1:=he1.size;have hs2:=he2.size;refine zb (ziO (y:=y) hd (ho.sl.ext he3) hl) ?_;rintro _ w4 ⟨x,z,rfl,hN,he4⟩;refine⟨(ndT d.1 x z y,0,()),rfl,?_⟩;have hs3:=he3.size;have hs4:=he4.size;refine refill (vs:=ndV d.1 x z y) (hb1.ext he4) (by rfl) (jj _ _ _ _) (by rfl) ?_;intro w5 hb5 hx5 hk5 hz5;have hlt:=hb5.lt;have he5:Ext w w5:=hx5 w (he.trans he4) (by omega);have heo:=he.trans he4;have o5:Only (fun k=>k=r1) w4 w5:=⟨he5.os.trans heo.os.symm,he5.tape.trans heo.tape.symm,he5.output.trans heo.output.symm,Nat.le_of_eq hz5.symm,fun k _ hk=>hk5 k hk⟩;refine zZ (ls:=qX) (ndT d.1 x z y) hb5 (by rfl) ?_;refine⟨x,z,y,rfl,⟨(hN.ks.only o5 (fun j hj e=>by have:=hN.ks.row j hj;have:j=r1:=e;omega)).lower (by omega),(hN.vs.only o5 (fun j hj e=>by have:=hN.vs.row j hj;have:j=r1:=e;omega)).lower (by omega),?_⟩,(fun a ha=>by have:=ho.row a.block (by rw[ha];rfl);have:=ho.ye a.block (by rw[ha];rfl);omega),he5⟩;refine hN.kids.only o5 (fun a ha e=>?_);have:=ho.row a.block (by rw[ha];rfl);have:a.block=r1:=e;omega
theorem qw {t:UInt8} {x y z:SLC}:Calls prog 167 #[.agg (ndV t x y z).toArray] w (Ret fun v w'=>v=.bool ((t.toNat:Int)==3)/\Ext w w'):=by
 apply zmP;unfold S167;refine zq fun r1 w1 hb1 he1 hr1 hz1=>?_;exact zF ((t.toNat:Nat):Int) hb1 (by rfl) ⟨rfl,he1⟩
theorem zaP {t:UInt8} {x y z:SLC}:Calls prog 203 #[.agg (ndV t x y z).toArray] w (Ret fun v w'=>v=.bool ((t.toNat:Int) !=4)/\Ext w w'):=by
 apply zm8;unfold S203;refine zq fun r1 w1 hb1 he1 hr1 hz1=>?_;exact zF ((t.toNat:Nat):Int) hb1 (by rfl) ⟨rfl,he1⟩
def Nd.val (d:Nd) (i:Nat):Nat:=if d.1=4 then d.2.2.1.getD i 0 else d.2.2.2.getD i 0
theorem zhK {N:Nat} {d:Nd} {x y z:SLC} (h:zaO w N d x y z) {i:Nat} (hi:i<if d.1=4 then y.2.1 else z.2.1) (h64:d.val i<18446744073709551616):Calls prog 168 #[.agg (ndV d.1 x y z).toArray,.int .i64 (i:Int)] w (Ret fun v w'=>v=.int .u64 (d.val i:Int)/\Ext w w'):=by
 apply zmQ;unfold S168;refine zq fun r1 w1 hb1 he1 hr1 hz1=>?_;have hb1:Blk w1 r1 (ndV d.1 x y z) 215:=hb1;refine zZ (ls:=qX) (ndT d.1 x y z) hb1 (by rfl) ?_;refine zb zaP ?_;rintro _ w2 ⟨rfl,he2⟩;refine⟨_,rfl,?_⟩;have he:=he1.trans he2;have hb2:=hb1.ext he2;unfold Nd.val at h64 ⊢
 by_cases hq:d.1=4
 ·rw[if_pos hq]at hi h64 ⊢;refine zd (by rw[hq];rfl) ?_;refine zm 2 y hb2 (by rfl) ?_;have hl:=h.vs.sl.le;refine z6 (h.vs.sl.ext he) (by omega) (by omega) ?_;rw[Int.toNat_natCast];exact⟨rfl,he⟩
 ·rw[if_neg hq]at hi h64 ⊢;refine zf (bne_iff_ne.2 (fun e=>hq (UInt8.toNat_inj.1 (by show _=4;omega)))) ?_;refine zm 3 z hb2 (by rfl) ?_;have hl:=h.kids.le;refine z6 (h.kids.ext he) (by omega) (by omega) ?_;rw[Int.toNat_natCast,zD h64];exact⟨rfl,he⟩
def shV (n lo hi:Nat) (t:UInt8) (tall:Nat):List Value:=[.int .i64 (n:Int),.int .u64 (lo:Int),.int .u64 (hi:Int),.int .u8 (t.toNat:Int),.int .i64 (tall:Int)]
abbrev znV:List Lf:=[.int .i64,.int .u64,.int .u64,.int .u8,.int .i64]
def shT (n lo hi:Nat) (t:UInt8) (tall:Nat):Int×Int×Int×Int×Int×Unit:=((n:Int),(lo:Int),(hi:Int),(t.toNat:Int),(tall:Int),())
theorem zbh (n lo hi:Nat) (t:UInt8) (tall:Nat):∀ v∈shV n lo hi t tall,v.oneCell'=true:=by
 intro v hv;simp only [shV,mem_cons,not_mem_nil,or_false]at hv;rcases hv with rfl|rfl|rfl|rfl|rfl<;>rfl
theorem zgc (h:yb w b db S F) {n deep:Nat} (hn:n<4294967296) {p:Page} {d:Nd} (hg:S.get n=(p,0)) (hd:qW p d) (h3:d.1≠3) (hl:d.2.1.length<=5000) (hdeep:deep<=16) {st:Bool}:
  Calls prog 124 #[.pointer (some ⟨b,0,none⟩),.int .u32 (n:Int),.int .i64 (deep:Int),.bool st] w (Ret fun v w'=>v=.tuple #[.agg (shV d.2.1.length (d.2.1.getD 0 0) (d.2.1.getD (d.2.1.length-1) 0) d.1 1).toArray,.int .i64 0]/\Ext w w'):=by
 have hne:1<=d.2.1.length:=by
  cases hd with
  |refs ks kids h1 h2 h3 h4=>exact h2
  |inner ks kids h1 h2 h3 h4=>exact Nat.le_of_succ_le h2
  |leaf k v h1 h2=>exact Nat.le_refl _
 apply zhc;unfold S124;refine zq fun r1 w1 hb1 he1 hr1 hz1=>?_;refine zb (uz (h.ext he1) hn hg hd hl) ?_;rintro _ w2 ⟨x,z,y,rfl,hN,_,he2⟩;refine⟨(ndT d.1 x z y,0,()),rfl,?_⟩;refine yz (vs:=ndV d.1 x z y) (by rfl) (jj _ _ _ _) (fun r3 w3 hb3 he3 hr3=>?_) (by rfl);refine zd (by rfl) (zd (decide_eq_false (by omega)) ?_);refine zZ (ls:=qX) (ndT d.1 x z y) hb3 (by rfl) ?_;refine zb qw ?_;rintro _ w4 ⟨rfl,he4⟩;refine⟨_,rfl,?_⟩;refine zf (by rw[beq_eq_false_iff_ne.2 (fun e=>h3 (UInt8.toNat_inj.1 (by show _=3;omega)))];rfl) ?_;refine zK fun w5 he5 hz5 hh5=>?_;have he25:=(he3.trans he4).trans he5;have he:=(he1.trans he2).trans he25;have hb3:=(hb3.ext he4).ext he5;have hk:=hN.ks.sl.ext he25;have hxl:=hk.len;have hxle:=hk.le;refine zm 1 x hb3 (by rfl) (zm 1 x hb3 (by rfl) ?_);refine z6 hk (by omega) (by omega) ?_;refine zm 1 x hb3 (by rfl) (zm 1 x hb3 (by rfl) ?_);rw[show wrap .i64 ((x.2.1:Int)-1)=((d.2.1.length-1:Nat):Int) by rw[wrap_i64 (by omega) (by omega)];omega];refine z6 hk (by omega) (by omega) ?_;rw[Int.toNat_natCast];refine zF ((d.1.toNat:Nat):Int) hb3 (by rfl) ?_;have hb1:=((hb1.ext he2).ext he25);refine refill (vs:=shV x.2.1 (d.2.1.getD 0 0) (d.2.1.getD (d.2.1.length-1) 0) d.1 1) hb1 (by rfl) (zbh _ _ _ _ _) (by rfl) ?_;intro w6 hb6 hx6 hk6 hz6;refine zZ (ls:=znV) (shT x.2.1 (d.2.1.getD 0 0) (d.2.1.getD (d.2.1.length-1) 0) d.1 1) hb6 (by rfl) ?_;exact⟨by rw[<- hxl];rfl,hx6 w he (by omega)⟩
theorem znW (h:yb w b db S F) {n:Nat} (hn:n<4294967296) {p:Page} {kn:Nat->Nat} {kp:Nat->Page} {kd:Nat->Nd} {t:UInt8} (ht:t≠3)
  (hg:S.get n=(p,0)) (hd:qW p ((3:UInt8),[(kd 0).2.1.getD 0 0,(kd 1).2.1.getD 0 0],[],[kn 0,kn 1]))
  (hk:∀ i,i<2->kn i<4294967296/\S.get (kn i)=(kp i,0)/\qW (kp i) (kd i)/\(kd i).1=t/\(kd i).2.1.length<=5000)
  (hr:(kd 0).2.1.getD ((kd 0).2.1.length-1) 0<(kd 1).2.1.getD 0 0) {st:Bool}:
  Calls prog 124 #[.pointer (some ⟨b,0,none⟩),.int .u32 (n:Int),.int .i64 1,.bool st] w (Ret fun v w'=>(∃ n lo hi t tl,v=.tuple #[.agg (shV n lo hi t tl).toArray,.int .i64 0])/\Ext w w'):=by
 apply zhc;unfold S124;refine zq fun r1 w1 hb1 he1 hr1 hz1=>?_;refine zb (uz (h.ext he1) hn hg hd (by show 2<=5000;omega)) ?_;rintro _ w2 ⟨x,z,y,rfl,hN,hyr,he2⟩;refine⟨(ndT 3 x z y,0,()),rfl,?_⟩;refine yz (vs:=ndV 3 x z y) (by rfl) (jj _ _ _ _) (fun r3 w3 hb3 he3 hr3=>?_) (by rfl);refine zd (by rfl) (zd (by rfl) ?_);refine zZ (ls:=qX) (ndT 3 x z y) hb3 (by rfl) ?_;refine zb qw ?_;rintro _ w4 ⟨rfl,he4⟩;refine⟨_,rfl,zd (by rfl) ?_⟩;have he34:=he3.trans he4;have hb34:=hb3.ext he4;refine zm 3 y hb34 (by rfl) ?_;have hN3:zaO w4 w1.heap.size _ x z y:=⟨hN.ks.ext he34,hN.vs.ext he34,hN.kids.ext he34⟩;have hyl:2=y.2.1:=hN3.kids.len;have hxl:2=x.2.1:=hN3.ks.len;have he04:=(he1.trans he2).trans he34;have hb14:Blk w4 r1 (shV 0 0 0 0 0) 197:=(hb1.ext he2).ext he34;have hl1:=hb14.lt;have hl3:=hb34.lt;have hs2:=he2.size;have hxr:=hN3.ks.row
 -- the worlds of the rounds differ from w4 at r1 alone
 refine zw (fun t' w'=>∃ i:Nat,i<=2/\t'=((i:Int),())/\Ext w w'/\Only (fun k=>k=r1) w4 w'/\∃ c lo hi,Blk w' r1 (if i=0 then shV 0 0 0 0 0 else shV c lo hi t 2) 197/\(i=1->hi=(kd 0).2.1.getD ((kd 0).2.1.length-1) 0)/\c<=5000*i) (fun t'=>(2-t'.1).toNat)
  ⟨0,by omega,rfl,he04,Only.refl _ _,0,0,0,hb14,by simp,by omega⟩ ?_
 rintro _ w5 ⟨i,hi2,rfl,he5,o5,c,lo,hi,b5,hhi,hc⟩;dsimp only;have hb5:=hb34.only o5 (by omega)
 by_cases hlt:i<2
 ·refine zf (decide_eq_true (by omega)) ?_;refine yu (fun(_:Unit) w'=>Ext w w'/\Only (fun k=>k=r1) w4 w'/\∃ c lo hi,Blk w' r1 (shV c lo hi t 2) 197/\(i=0->hi=(kd 0).2.1.getD ((kd 0).2.1.length-1) 0)/\c<=5000*(i+1)) ?_ (fun J hJ=>?_)
  ·rintro _ w6 ⟨g1,g2,c',lo',hi',g3,g4,g5⟩;exact⟨⟨i+1,by omega,by rw[wrap_i64 (by omega) (by omega)];rfl,g1,g2,c',lo',hi',by rw[if_neg (by omega)];exact g3,fun e=>g4 (by omega),g5⟩,by rw[wrap_i64 (by omega) (by omega)];omega⟩
  have hkid5:=hN3.kids.only o5 (fun a ha e=>by have:=(hyr a ha).1;have:a.block=r1:=e;omega);refine z6 hkid5 (by omega) (by omega) ?_;rw[Int.toNat_natCast];obtain⟨k1,k2,k3,k4,k5⟩:=hk i hlt;have ek:([kn 0,kn 1]:List Nat).getD i 0=kn i:=by
   rcases (show i=0\/i=1 by omega) with rfl|rfl<;>rfl
  have ekk:([(kd 0).2.1.getD 0 0,(kd 1).2.1.getD 0 0]:List Nat).getD i 0=(kd i).2.1.getD 0 0:=by
   rcases (show i=0\/i=1 by omega) with rfl|rfl<;>rfl
  rw[show([kn 0,kn 1]:List Nat).getD i 0=kn i from ek];rw[show wrap .i64 (1+1)=((2:Nat):Int) by decide];refine zb (zgc (h.ext he5) k1 k2 k3 (by rw[k4];exact ht) k5 (deep:=2) (by omega)) ?_;rintro _ w6 ⟨rfl,he6⟩;refine⟨(shT (kd i).2.1.length ((kd i).2.1.getD 0 0) ((kd i).2.1.getD ((kd i).2.1.length-1) 0) (kd i).1 1,0,()),rfl,?_⟩;refine yz (vs:=shV (kd i).2.1.length ((kd i).2.1.getD 0 0) ((kd i).2.1.getD ((kd i).2.1.length-1) 0) (kd i).1 1) (by rfl) (zbh _ _ _ _ _) (fun r28 w7 hb7 he7 hr7=>?_) (by rfl);refine zd (by rfl) ?_;rw[k4]at hb7;have he57:=he6.trans he7;have b7:=b5.ext he57;have h37:=hb5.ext he57;have hk7:=(hN3.ks.only o5 (fun j hj e=>by have:=hxr j hj;have:j=r1:=e;omega)).ext he57;have hs5:=o5.2.2.2.1;have hs6:=he6.size;refine yu (fun(y':Bool×Unit) w'=>y'=(false,())/\∃ _:w7.heap.size<=w'.heap.size,Ext w7 w') ?_ (fun J31 hJ31=>?_);rotate_left
  ·refine zK fun w8 he8 hz8 hh8=>?_;have hb8:=hb7.ext he8;have b8:=b7.ext he8;refine zm 1 (((kd i).2.1.getD 0 0:Nat):Int) hb8 (by rfl) ?_;refine zm 1 x (h37.ext he8) (by rfl) ?_;refine z6 (hk7.sl.ext he8) (by omega) (by omega) ?_;rw[Int.toNat_natCast,ekk];refine zd (by simp) ?_;have hfin:=hJ31 (false,()) w8 ⟨rfl,by omega,he8⟩
   by_cases h0:i=0
   ·exact zd (decide_eq_false (by omega)) hfin
   ·obtain rfl:i=1:=by omega
    refine zf (by rfl) ?_;have b8:Blk w8 r1 (shV c lo hi t 2) 197:=b8;refine zm 2 ((hi:Nat):Int) b8 (by rfl) ?_;refine zm 1 (((kd 1).2.1.getD 0 0:Nat):Int) hb8 (by rfl) ?_;refine zd (decide_eq_false (by rw[hhi rfl];omega)) ?_;refine zm 3 ((t.toNat:Nat):Int) b8 (by rfl) ?_;refine zm 3 ((t.toNat:Nat):Int) hb8 (by rfl) ?_;refine zd (by simp) ?_;refine zm 4 ((2:Nat):Int) b8 (by rfl) ?_;refine zm 4 ((1:Nat):Int) hb8 (by rfl) ?_;exact hfin
  ·rintro _ w8 ⟨rfl,hs8,he8⟩;refine yu (fun(_:Unit) w'=>w'=w8) ?_ (fun J43 hJ43=>by
    refine zg (fun _=>zd (by rfl) (hJ43 _ _ rfl)) (fun _=>hJ43 _ _ rfl))
   rintro _ w9 rfl;have hb9:=hb7.ext he8;have b9:=b7.ext he8;have hl9:=b9.lt;refine yu (fun(_:Unit) w'=>Only (fun k=>k=r1) w9 w'/\∃ lo',Blk w' r1 (if i=0 then shV 0 lo' 0 0 0 else shV c lo' hi t 2) 197) ?_ (fun J47 hJ47=>?_);rotate_left
   ·refine zg (fun hq=>?_) (fun hq=>hJ47 _ _ ⟨Only.refl _ _,lo,?_⟩)
    ·have hq:(i:Int)=0:=beq_iff_eq.1 hq;obtain rfl:i=0:=by omega
     refine zm 1 (((kd 0).2.1.getD 0 0:Nat):Int) hb9 (by rfl) ?_;refine stE (o:=1) b9 (by rw[zC]) (by show 1<5;omega) ?_;intro w10 b10 o10;exact hJ47 _ _ ⟨o10,_,b10⟩
    ·have hq:¬(i:Int)=0:=beq_eq_false_iff_ne.1 hq;rw[if_neg (by omega)]at b9 ⊢;exact b9
   rintro _ w10 ⟨o10,lo',b10⟩;have hl28:=hb9.lt;have hb10:=hb9.only o10 (by omega);have e0:∃ c0 lo0 hi0 t0 tl0,c0<=5000*i/\Blk w10 r1 (shV c0 lo0 hi0 t0 tl0) 197:=by
    split at b10
    ·exact⟨_,_,_,_,_,by omega,b10⟩
    ·exact⟨_,_,_,_,_,hc,b10⟩
   obtain⟨c0,lo0,hi0,t0,tl0,hc0,b10⟩:=e0;refine zF ((c0:Nat):Int) b10 (by rfl) ?_;refine zF (((kd i).2.1.length:Nat):Int) hb10 (by rfl) ?_;refine zm 1 ((lo0:Nat):Int) b10 (by rfl) ?_;refine zm 2 (((kd i).2.1.getD ((kd i).2.1.length-1) 0:Nat):Int) hb10 (by rfl) ?_;refine zm 3 ((t.toNat:Nat):Int) hb10 (by rfl) ?_;refine zm 4 ((1:Nat):Int) hb10 (by rfl) ?_;rw[show wrap .i64 ((c0:Int)+((kd i).2.1.length:Int))=((c0+(kd i).2.1.length:Nat):Int) by rw[wrap_i64 (by omega) (by omega)];rfl,show wrap .i64 (((1:Nat):Int)+1)=((2:Nat):Int) by decide];refine zpS (o:=0) (vs:=shV (c0+(kd i).2.1.length) lo0 ((kd i).2.1.getD ((kd i).2.1.length-1) 0) t 2) b10 (by rfl) (by show 0+5<=5;omega) (zbh _ _ _ _ _) (by rfl) ?_;intro w11 b11 o11;have b11:Blk w11 r1 (shV (c0+(kd i).2.1.length) lo0 ((kd i).2.1.getD ((kd i).2.1.length-1) 0) t 2) 197:=b11;have oo:Only (fun k=>k=r1) w5 w11:=Only.trans (Only.trans (Only.zG (he57.trans he8)) o10 (fun j hj=>.inl hj)) o11 (fun j hj=>.inl hj);refine hJ _ _ ⟨Only.ext he5 oo (fun j hj=>by have:j=r1:=hj;omega),Only.trans o5 oo (fun j hj=>.inl hj),_,_,_,b11,fun e=>by subst e;rfl,by omega⟩
 ·obtain rfl:i=2:=by omega
  refine zd (decide_eq_false (by omega)) ?_;have b5:Blk w5 r1 (shV c lo hi t 2) 197:=b5;refine zZ (ls:=znV) (shT c lo hi t 2) b5 (by rfl) ?_;refine refill (vs:=shV c lo hi t 2) b5 (by rfl) (zbh _ _ _ _ _) (by rfl) ?_;intro w6 hb6 hx6 hk6 hz6;refine zZ (ls:=znV) (shT c lo hi t 2) hb6 (by rfl) ?_;exact⟨⟨_,_,_,_,_,rfl⟩,hx6 w he5 (by omega)⟩
end V
/- Contracts of the package tree:Check,walk,Each. -/
namespace V
open Go Go.Proofs Go.RowKit Crc
variable {w w':World} {b db:Nat} {S:Spa} {F:Nat->Prop} {R:List Nat}
theorem Owni.cong {α:Type} {E:Enc α} {e:TypeId} {w w':World} {B:Nat} {A:Option Addr} {n c:Nat} {xs:List α} (h:Owni E e w B A n c xs) (hs:∀ j,orow A=some j->w'.heap[j]?=w.heap[j]?):Owni E e w' B A n c xs:=by
 refine⟨h.1,?_⟩;rcases h.2 with hn|⟨g,cap,cur,hv,hb,hgg,rest⟩
 ·exact .inl hn
 ·have hA:orow A=some g:=by
   injection hv with hv
   rw[hv];rfl
  exact .inr ⟨g,cap,cur,hv,hb,(hs g hA).trans hgg,rest⟩
theorem jx.get {n:Nat} {ks vs:List Nat} (h:jx S n ks vs) (hg:Good S R) (hu:zE S.sup.pages S.now n=true):S.get n=(((5:UInt8),vs,mkB (k8B ks)),0)/\qW ((5:UInt8),vs,mkB (k8B ks)) ((5:UInt8),ks,[],vs)/\n<4294967296:=by
 have h1:=h.ok;rw[h.1]at h1;refine⟨(hg.get hu).1.trans h.1,h1,?_⟩;have:=hg.well.lt hu;have:=hg.dims.n;omega
theorem getD_take {l:List Nat} {m i:Nat} (h:i<m):(l.take m).getD i 0=l.getD i 0:=by
 rw[getD_eq_getElem?_getD,List.getElem?_take,if_pos h,<- getD_eq_getElem?_getD]
theorem uc {l:List Nat} {m i:Nat}:(l.drop m).getD i 0=l.getD (m+i) 0:=by
 rw[getD_eq_getElem?_getD,List.getElem?_drop,<- getD_eq_getElem?_getD]
def kdT (ks vs:List Nat) (m:Nat) (i:Nat):Nd:=if i=0 then ((5:UInt8),ks.take m,[],vs.take m) else ((5:UInt8),ks.drop m,[],vs.drop m)
theorem zhL (h:yb w b db S F) (hg:Good S R) {n:Nat} {ks vs:List Nat} (ht:qi S n ks vs) (hu:zE S.sup.pages S.now n=true) (hl:ks.length<=5000):
  Calls prog 79 #[.pointer (some ⟨b,0,none⟩),.int .u32 (n:Int)] w (Ret fun v w'=>v=.int .i64 0/\Ext w w'):=by
 have hn2:=(zA.1 hu).1;have hn32:n<4294967296:=by
  have:=hg.well.lt hu;have:=hg.dims.n;omega
 have hlook:Calls prog 124 #[.pointer (some ⟨b,0,none⟩),.int .u32 (n:Int),.int .i64 1,.bool true] w (Ret fun v w'=>(∃ n lo hi t tl,v=.tuple #[.agg (shV n lo hi t tl).toArray,.int .i64 0])/\Ext w w'):=by
  cases ht with
  |one hA=>
   obtain⟨g1,g2,g3⟩:=hA.get hg hu;refine(zgc h hn32 g1 g2 (by show(5:UInt8)≠3;decide) hl (deep:=1) (by omega)).mono (Ret.mono ?_);rintro v w' ⟨rfl,he⟩;exact⟨⟨_,_,_,_,_,rfl⟩,he⟩
  |two m a c h1 h2 h3 h4 h5 h6 h7 h8=>
   have hkid:zU S.page n=[a,c]:=by unfold zU;rw[h6]
   have hua:=((hg.well.good n hu).2 a (by rw[hkid];simp));have huc:=((hg.well.good n hu).2 c (by rw[hkid];simp));obtain⟨a1,a2,a3⟩:=h7.get hg hua;obtain⟨c1,c2,c3⟩:=h8.get hg huc;have e0:(ks.take m).getD 0 0=ks.getD 0 0:=getD_take (by omega);have e1:(ks.drop m).getD 0 0=ks.getD m 0:=uc;have htl:(ks.take m).length=m:=by rw[length_take];omega
   have hdl:(ks.drop m).length=ks.length-m:=length_drop;have hin:qW (S.page n).1 ((3:UInt8),[ks.getD 0 0,ks.getD m 0],[],[a,c]):=by
    rw[h6];refine qW.inner _ _ rfl (by simp) ?_ ?_
    ·have:=zc0 h4 (m-1) 0 (by omega);rw[show 0+(m-1)+1=m by omega]at this;show(decide (ks.getD 0 0<ks.getD m 0)&&true)=true;rw[decide_eq_true this];rfl
    ·intro q hq;simp only [mem_cons,not_mem_nil,or_false]at hq;have hm:∀ i,i<ks.length->ks.getD i 0<18446744073709551616:=fun i hi=>by
      rw[getD_eq_getElem?_getD,List.getElem?_eq_getElem hi];exact h5 _ (getElem_mem _)
     rcases hq with rfl|rfl
     ·exact hm _ (by omega)
     ·exact hm _ h2
   refine znW (t:=5) (kn:=fun i=>if i=0 then a else c) (kd:=kdT ks vs m) (kp:=fun i=>if i=0 then ((5:UInt8),vs.take m,mkB (k8B (ks.take m))) else ((5:UInt8),vs.drop m,mkB (k8B (ks.drop m)))) h hn32 (by decide) ((hg.get hu).1.trans (Prod.ext rfl (hg.get hu).2)) (p:=(S.page n).1) ?_ (fun i hi=>?_) ?_
   ·show qW _ ((3:UInt8),[(ks.take m).getD 0 0,(ks.drop m).getD 0 0],[],[a,c]);rw[e0,e1];exact hin
   ·rcases (show i=0\/i=1 by omega) with rfl|rfl
    ·exact⟨a3,a1,a2,rfl,by show(ks.take m).length<=5000;omega⟩
    ·exact⟨c3,c1,c2,rfl,by show(ks.drop m).length<=5000;omega⟩
   ·show(ks.take m).getD ((ks.take m).length-1) 0<(ks.drop m).getD 0 0;rw[htl,e1,getD_take (by omega)];have:=qO.1 h4 (m-1) (by omega);rw[show m-1+1=m by omega]at this;exact this
 apply zpk;unfold S79;refine zd (by rfl) (zd (beq_eq_false_iff_ne.2 (by omega)) ?_);refine zb hlook ?_;rintro _ w1 ⟨⟨n',lo,hi,t,tl,rfl⟩,he1⟩;refine⟨(shT n' lo hi t tl,0,()),rfl,?_⟩;refine yz (vs:=shV n' lo hi t tl) (by rfl) (zbh _ _ _ _ _) (fun r2 w2 hb2 he2 hr2=>?_) (by rfl);exact⟨rfl,he1.trans he2⟩
def Yld (P:Program) (l:Nat) (L:List (List Value)) (R:WP) (J:(Nat->Prop)->Nat->WP) (E:(Nat->Prop)->WP):Prop:=
 ∀ (V:Nat->Prop) i w' (h:i<L.length),J V i w'->(∀ k,V k->k<w'.heap.size)->ja P l L[i] w' fun v w''=>w'.heap.size<=w''.heap.size/\(∀ k,V k->w''.heap[k]?=w'.heap[k]?)/\((v=.bool true/\R w''/\J V (i+1) w'')\/(v=.bool false/\E V w''))
def Stay (R:WP) (J:(Nat->Prop)->Nat->WP):Prop:=∀ (V V':Nat->Prop) i w' w'',J V i w'->Only V w' w''->(∀ k,V' k->V k\/w'.heap.size<=k)->R w''->J V' i w''
def zc1 (k v:Nat):List Value:=[.int .u64 (k:Int),.int .u64 (v:Int)]
def zdh (w:World) (V:Nat->Prop) (J:(Nat->Prop)->Nat->WP) (E:(Nat->Prop)->WP) (i:Nat) (v:Value) (w':World):Prop:=
 ∃ V':Nat->Prop,(∀ k,V' k->V k\/w.heap.size<=k)/\(∀ k,V k->V' k)/\(∀ k,V' k->k<w'.heap.size)/\(∀ k,V k->w'.heap[k]?=w.heap[k]?)/\w.heap.size<=w'.heap.size/\((v=.bool true/\J V' i w')\/(v=.bool false/\E V' w'))
theorem zqS {l:Nat} {L:List (List Value)} {R:WP} {J:(Nat->Prop)->Nat->WP} {E:(Nat->Prop)->WP} (hY:Yld prog l L R J E) {V:Nat->Prop} {i k v:Nat} {w2:World} {K:Bool->WP} (hJ:J V i w2) (hV:∀ q,V q->q<w2.heap.size) (hL:L[i]?=some (zc1 k v))
  (hK1:∀ w3,w2.heap.size<=w3.heap.size->(∀ k,V k->w3.heap[k]?=w2.heap[k]?)->R w3->J V (i+1) w3->K true w3) (hK2:∀ w3,w2.heap.size<=w3.heap.size->(∀ k,V k->w3.heap[k]?=w2.heap[k]?)->E V w3->K false w3):
  yw prog (.func (.yield l) #[] #[]) [.int .u64 (k:Int),.int .u64 (v:Int)] (.one (.one .bool)) K w2:=by
 obtain⟨hi,hL⟩:=List.getElem?_eq_some_iff.1 hL;refine .inr ⟨l,rfl,?_⟩;have hy:=hY V i w2 hi hJ hV;rw[hL]at hy;obtain⟨fn,tmps,asg,bd,hy1,hy2⟩:=hy;refine⟨fn,tmps,asg,bd,hy1,RoundIn.mono hy2 ?_⟩;rintro(v|cc|_) w6 hvv
 ·obtain⟨a1,a2,⟨rfl,a3,a4⟩|⟨rfl,a3⟩⟩:=hvv
  ·exact⟨true,rfl,hK1 w6 a1 a2 a3 a4⟩
  ·exact⟨false,rfl,hK2 w6 a1 a2 a3⟩
 ·exact hvv
 ·exact hvv
theorem zgd {l:Nat} {L:List (List Value)} {J:(Nat->Prop)->Nat->WP} {E:(Nat->Prop)->WP} {V:Nat->Prop} (hY:Yld prog l L (fun w=>yb w b db S F) J E) (hS:Stay (fun w=>yb w b db S F) J) (hR:∀ V i w',J V i w'->yb w' b db S F)
  {n deep i0:Nat} (hn:n<4294967296) {p:Page} {d:Nd} (hg:S.get n=(p,0)) (hd:qW p d) (h3:d.1≠3) (hl:d.2.1.length<=5000) (hv:∀ i,d.val i<18446744073709551616) (hdeep:deep<=16)
  (hL:∀ j,j<d.2.1.length->L[i0+j]?=some (zc1 (d.2.1.getD j 0) (d.val j))) (hJ:J V i0 w) (hV:∀ k,V k->k<w.heap.size):
  Calls prog 126 #[.pointer (some ⟨b,0,none⟩),.int .u32 (n:Int),.int .u64 0,.int .i64 (deep:Int),.func (.yield l) #[] #[]] w (Ret (zdh w V J E (i0+d.2.1.length))):=by
 have h:=hR _ _ _ hJ;apply zhd;unfold S126;refine zb (uz h hn hg hd hl) ?_;rintro _ w1 ⟨x,z,y,rfl,hN,hyr,he1⟩;refine⟨(ndT d.1 x z y,0,()),rfl,?_⟩;refine yz (vs:=ndV d.1 x z y) (by rfl) (jj _ _ _ _) (fun r2 w2 hb2 he2 hr2=>?_) (by rfl);refine zd (by rfl) (zd (decide_eq_false (by omega)) ?_);refine zm 1 x hb2 (by rfl) ?_;have he:=he1.trans he2;have hs1:=he1.size;have hs2:=he2.size;have hl2:=hb2.lt;have hN2:zaO w2 w.heap.size d x z y:=⟨hN.ks.ext he2,hN.vs.ext he2,hN.kids.ext he2⟩;have hxl:=hN2.ks.len;have hxle:=hN2.ks.sl.le;have hlen:∀ i,i<d.2.1.length->i<if d.1=4 then z.2.1 else y.2.1:=fun i hi=>by
  have a1:=hN2.vs.len;have a2:=hN2.kids.len;cases hd with
  |refs ks kids h1 h2 h3 h4=>rw[if_neg (show ¬(5:UInt8)=4 by decide)];dsimp only at a2 hi;omega
  |inner ks kids h1 h2 h3 h4=>exact absurd rfl h3
  |leaf k v h1 h2=>rw[if_pos rfl];dsimp only at a1 hi;rw[<- a1];exact hi
 let V1:Nat->Prop:=fun q=>V q\/(w.heap.size<=q/\q<w2.heap.size)
 have hV1:∀ q,V1 q->q<w2.heap.size:=fun q hq=>by
  rcases hq with e|e
  ·have:=hV q e;omega
  ·exact e.2
 have hVn:∀ q,V1 q->V q\/w.heap.size<=q:=fun q hq=>hq.imp id (fun e=>e.1);have hJ2:J V1 i0 w2:=hS _ _ _ _ _ hJ (Only.zG he) hVn (h.ext he);refine zw (fun t w'=>∃ i:Nat,i<=d.2.1.length/\t=((i:Int),())/\J V1 (i0+i) w'/\(∀ q,V1 q->w'.heap[q]?=w2.heap[q]?)/\w2.heap.size<=w'.heap.size) (fun t=>(d.2.1.length-t.1).toNat) ⟨0,by omega,rfl,hJ2,fun _ _=>rfl,Nat.le_refl _⟩ ?_;rintro _ w3 ⟨i,hi,rfl,hJ3,hkp,hs3⟩;dsimp only;have fin:∀ {w4:World} {r:Bool},w3.heap.size<=w4.heap.size->(∀ q,V1 q->w4.heap[q]?=w2.heap[q]?)->((r=true/\J V1 (i0+d.2.1.length) w4)\/(r=false/\E V1 w4))->zdh w V J E (i0+d.2.1.length) (.bool r) w4:=by
  intro w4 r a1 a2 a3;refine⟨V1,hVn,fun k hk=>.inl hk,fun k hk=>by have:=hV1 k hk;omega,fun k hk=>(a2 k (.inl hk)).trans (he.block k (hV k hk)),by omega,?_⟩;rcases a3 with ⟨rfl,a3⟩|⟨rfl,a3⟩
  ·exact .inl ⟨rfl,a3⟩
  ·exact .inr ⟨rfl,a3⟩
 by_cases hlt:i<d.2.1.length
 ·refine zf (decide_eq_true (by omega)) ?_;have hb3:Blk w3 r2 (ndV d.1 x z y) 215:=(hkp r2 (.inr ⟨by omega,hl2⟩)).trans hb2;have hin:∀ q,w.heap.size<=q->q<w2.heap.size->w3.heap[q]?=w2.heap[q]?:=fun q h1 h2=>hkp q (.inr ⟨h1,h2⟩);have hk3:Sli (zv .u64) w3 x.1 x.2.1 d.2.1:=hN2.ks.sl.congr (fun a ha=>hin _ (hN2.ks.row _ (by rw[ha];rfl)) (hN2.ks.ye _ (by rw[ha];rfl)));refine zZ (ls:=qX) (ndT d.1 x z y) hb3 (by rfl) ?_;refine zb qw ?_;rintro _ w4 ⟨rfl,he4⟩;refine⟨_,rfl,?_⟩;refine zf (by rw[beq_eq_false_iff_ne.2 (fun e=>h3 (UInt8.toNat_inj.1 (by show _=3;omega)))];rfl) ?_;refine zK fun w5 he5 hz5 hh5=>?_;have he35:=he4.trans he5;have hb5:=hb3.ext he35;have hk5:=hk3.ext he35;refine zm 1 x hb5 (by rfl) ?_;refine z6 hk5 (by omega) (by omega) ?_;refine zf (decide_eq_true (by omega)) ?_;refine zm 1 x hb5 (by rfl) ?_;refine zL ⟨by omega,by omega⟩ ?_;have ek:d.2.1[i]?=some (d.2.1.getD i 0):=by rw[getD_eq_getElem?_getD,List.getElem?_eq_getElem hlt];rfl
  obtain⟨a,ha,hsp,hcell⟩:=hk5.at_ ek;refine⟨a,ha,?_⟩;rw[Int.toNat_natCast];have hc0:w5.cell? (a.add (i*1))=some (.int .u64 ((d.2.1.getD i 0:Nat):Int)):=by
   have:=hcell.1;rw[add_zero]at this;exact this
  refine zaD (l:=.int .u64) (x:=((d.2.1.getD i 0:Nat):Int)) (by exact hc0) ?_;refine zZ (ls:=qX) (ndT d.1 x z y) hb5 (by rfl) ?_;have hN5:zaO w5 w.heap.size d x z y:=by
   refine⟨(hN2.ks.cong (fun j hj=>hin _ (hN2.ks.row _ hj) (hN2.ks.ye _ hj))).ext he35,(hN2.vs.cong (fun j hj=>hin _ (hN2.vs.row _ hj) (hN2.vs.ye _ hj))).ext he35,(hN2.kids.congr (fun a ha=>?_)).ext he35⟩;have:=hyr a ha;exact hin _ this.1 (by omega)
  refine zb (zhK hN5 (hlen i hlt) (hv i)) ?_;rintro _ w6 ⟨rfl,he6⟩;refine⟨_,rfl,?_⟩;have he36:=he35.trans he6;have hs6:=he36.size;refine jD (fun p hp=>by rw[mem_singleton.1 hp];exact he6.cell hc0) (yS (hb5.ext he6) rfl) ?_;have hJ6:J V1 (i0+i) w6:=hS _ _ _ _ _ hJ3 (Only.zG he36) (fun k hk=>.inl hk) ((hR _ _ _ hJ3).ext he36);have hkp6:∀ q,V1 q->w6.heap[q]?=w2.heap[q]?:=fun q hq=>(he36.block q (by have:=hV1 q hq;omega)).trans (hkp q hq);refine zqS hY hJ6 (fun q hq=>by have:=hV1 q hq;omega) (hL i hlt) (fun w7 a1 a2 a3 a4=>?_) (fun w7 a1 a2 a3=>?_)
  ·refine zd (by rfl) ?_;exact⟨⟨i+1,by omega,by rw[wrap_i64 (by omega) (by omega)];rfl,a4,fun q hq=>(a2 q hq).trans (hkp6 q hq),by omega⟩,by rw[wrap_i64 (by omega) (by omega)];omega⟩
  ·refine zf (by rfl) ?_;exact fin (by omega) (fun q hq=>(a2 q hq).trans (hkp6 q hq)) (.inr ⟨rfl,a3⟩)
 ·obtain rfl:i=d.2.1.length:=by omega
  refine zd (decide_eq_false (by omega)) ?_;exact fin (Nat.le_refl _) hkp (.inl ⟨rfl,hJ3⟩)
theorem znX {l:Nat} {L:List (List Value)} {J:(Nat->Prop)->Nat->WP} {E:(Nat->Prop)->WP} {V:Nat->Prop} (hY:Yld prog l L (fun w=>yb w b db S F) J E) (hS:Stay (fun w=>yb w b db S F) J) (hR:∀ V i w',J V i w'->yb w' b db S F)
  {n:Nat} (hn:n<4294967296) {p:Page} {kn:Nat->Nat} {kp:Nat->Page} {kd:Nat->Nd} {t:UInt8} (ht:t≠3)
  (hg:S.get n=(p,0)) (hd:qW p ((3:UInt8),[(kd 0).2.1.getD 0 0,(kd 1).2.1.getD 0 0],[],[kn 0,kn 1]))
  (hk:∀ i,i<2->kn i<4294967296/\S.get (kn i)=(kp i,0)/\qW (kp i) (kd i)/\(kd i).1=t/\(kd i).2.1.length<=5000/\∀ j,(kd i).val j<18446744073709551616)
  (hr:0<(kd 1).2.1.getD 0 0)
  (hL:∀ i j,i<2->j<(kd i).2.1.length->L[(if i=0 then 0 else (kd 0).2.1.length)+j]?=some (zc1 ((kd i).2.1.getD j 0) ((kd i).val j))) (hJ:J V 0 w) (hV:∀ k,V k->k<w.heap.size):
  Calls prog 126 #[.pointer (some ⟨b,0,none⟩),.int .u32 (n:Int),.int .u64 0,.int .i64 1,.func (.yield l) #[] #[]] w (Ret (zdh w V J E ((kd 0).2.1.length+(kd 1).2.1.length))):=by
 have h:=hR _ _ _ hJ;apply zhd;unfold S126;refine zb (uz h hn hg hd (by show 2<=5000;omega)) ?_;rintro _ w1 ⟨x,z,y,rfl,hN,hyr,he1⟩;refine⟨(ndT 3 x z y,0,()),rfl,?_⟩;refine yz (vs:=ndV 3 x z y) (by rfl) (jj _ _ _ _) (fun r2 w2 hb2 he2 hr2=>?_) (by rfl);refine zd (by rfl) (zd (by rfl) ?_);refine zm 1 x hb2 (by rfl) ?_;have he:=he1.trans he2;have hs1:=he1.size;have hs2:=he2.size;have hl2:=hb2.lt;have hN2:zaO w2 w.heap.size _ x z y:=⟨hN.ks.ext he2,hN.vs.ext he2,hN.kids.ext he2⟩;have hyl:2=y.2.1:=hN2.kids.len;have hxl:2=x.2.1:=hN2.ks.len
 let V1:Nat->Prop:=fun q=>V q\/(w.heap.size<=q/\q<w2.heap.size)
 have hV1:∀ q,V1 q->q<w2.heap.size:=fun q hq=>by
  rcases hq with e|e
  ·have:=hV q e;omega
  ·exact e.2
 have hVn:∀ q,V1 q->V q\/w.heap.size<=q:=fun q hq=>hq.imp id (fun e=>e.1);have hJ2:J V1 0 w2:=hS _ _ _ _ _ hJ (Only.zG he) hVn (h.ext he)
 let at_:Nat->Nat:=fun i=>if i=0 then 0 else if i=1 then (kd 0).2.1.length else (kd 0).2.1.length+(kd 1).2.1.length
 refine zw (fun t w'=>∃ (i:Nat) (Vi:Nat->Prop),i<=2/\t=((i:Int),())/\J Vi (at_ i) w'/\(∀ q,V1 q->Vi q)/\(∀ q,Vi q->V1 q\/w2.heap.size<=q)/\(∀ q,Vi q->q<w'.heap.size)/\(∀ q,V1 q->w'.heap[q]?=w2.heap[q]?)/\w2.heap.size<=w'.heap.size) (fun t=>(2-t.1).toNat) ⟨0,V1,by omega,rfl,hJ2,fun _ h=>h,fun _ h=>.inl h,hV1,fun _ _=>rfl,Nat.le_refl _⟩ ?_;rintro _ w3 ⟨i,Vi,hi,rfl,hJ3,hv1,hv2,hv3,hkp,hs3⟩;dsimp only;have fin:∀ {w4:World} {r:Bool} {Vj:Nat->Prop},w3.heap.size<=w4.heap.size->(∀ q,V1 q->Vj q)->(∀ q,Vj q->V1 q\/w2.heap.size<=q)->(∀ q,Vj q->q<w4.heap.size)->(∀ q,V1 q->w4.heap[q]?=w2.heap[q]?)->((r=true/\J Vj ((kd 0).2.1.length+(kd 1).2.1.length) w4)\/(r=false/\E Vj w4))->zdh w V J E ((kd 0).2.1.length+(kd 1).2.1.length) (.bool r) w4:=by
  intro w4 r Vj a1 b1 b2 b3 a2 a3;refine⟨Vj,fun k hk=>?_,fun k hk=>b1 k (.inl hk),b3,fun k hk=>(a2 k (.inl hk)).trans (he.block k (hV k hk)),by omega,?_⟩
  ·rcases b2 k hk with e|e
   ·exact hVn k e
   ·exact .inr (by omega)
  ·rcases a3 with ⟨rfl,a3⟩|⟨rfl,a3⟩
   ·exact .inl ⟨rfl,a3⟩
   ·exact .inr ⟨rfl,a3⟩
 by_cases hlt:i<2
 ·refine zf (decide_eq_true (by omega)) ?_;have hb3:Blk w3 r2 (ndV 3 x z y) 215:=(hkp r2 (.inr ⟨by omega,hl2⟩)).trans hb2;have hin:∀ q,w.heap.size<=q->q<w2.heap.size->w3.heap[q]?=w2.heap[q]?:=fun q h1 h2=>hkp q (.inr ⟨h1,h2⟩);have hk3:=hN2.ks.sl.congr (w':=w3) (fun a ha=>hin _ (hN2.ks.row _ (by rw[ha];rfl)) (hN2.ks.ye _ (by rw[ha];rfl)));have hy3:=hN2.kids.congr (w':=w3) (fun a ha=>hin _ (hyr a ha).1 (by have:=(hyr a ha).2;omega));refine zZ (ls:=qX) (ndT 3 x z y) hb3 (by rfl) ?_;refine zb qw ?_;rintro _ w4 ⟨rfl,he4⟩;refine⟨_,rfl,?_⟩;refine zd (by rfl) ?_;have hb4:=hb3.ext he4;have hs4:=he4.size;have hJ4:J Vi (at_ i) w4:=hS _ _ _ _ _ hJ3 (Only.zG he4) (fun k hk=>.inl hk) ((hR _ _ _ hJ3).ext he4);have hkp4:∀ q,V1 q->w4.heap[q]?=w2.heap[q]?:=fun q hq=>(he4.block q (by have:=hV1 q hq;omega)).trans (hkp q hq);obtain⟨k1,k2,k3,k4,k5,k6⟩:=hk i hlt;have ek:([kn 0,kn 1]:List Nat).getD i 0=kn i:=by
   rcases (show i=0\/i=1 by omega) with rfl|rfl<;>rfl
  have ea:at_ i=if i=0 then 0 else (kd 0).2.1.length:=by
   rcases (show i=0\/i=1 by omega) with rfl|rfl<;>rfl
  have ea1:at_ (i+1)=at_ i+(kd i).2.1.length:=by
   rcases (show i=0\/i=1 by omega) with rfl|rfl
   ·show(kd 0).2.1.length=0+_;omega
   ·rfl
  have rec_:=zgd (w:=w4) hY hS hR k1 k2 k3 (by rw[k4];exact ht) k5 k6 (deep:=2) (by omega) (i0:=at_ i) (fun j hj=>by rw[ea];exact hL i j hlt hj) hJ4 (fun k hk=>by have:=hv3 k hk;omega);have next:∀ (v:Value) w5,zdh w4 Vi J E (at_ i+(kd i).2.1.length) v w5->∃ r:Bool,v=.bool r/\w4.heap.size<=w5.heap.size/\∃ Vj:Nat->Prop,(∀ q,V1 q->Vj q)/\(∀ q,Vj q->V1 q\/w2.heap.size<=q)/\(∀ q,Vj q->q<w5.heap.size)/\(∀ q,V1 q->w5.heap[q]?=w2.heap[q]?)/\((r=true/\J Vj (at_ (i+1)) w5)\/(r=false/\E Vj w5)):=by
   rintro v w5 ⟨Vj,c1,c2,c3,c4,c5,c6⟩;rw[ea1];refine(?_:∀ P:Prop,P->P) _ ?_
   ·exact fun _ h=>h
   have g1:∀ q,Vj q->V1 q\/w2.heap.size<=q:=fun q hq=>by
    rcases c1 q hq with e|e
    ·exact hv2 q e
    ·exact .inr (by omega)
   have g2:∀ q,V1 q->w5.heap[q]?=w2.heap[q]?:=fun q hq=>(c4 q (hv1 q hq)).trans (hkp4 q hq);rcases c6 with ⟨rfl,c6⟩|⟨rfl,c6⟩
   ·exact⟨true,rfl,c5,Vj,fun q hq=>c2 q (hv1 q hq),g1,c3,g2,.inl ⟨rfl,c6⟩⟩
   ·exact⟨false,rfl,c5,Vj,fun q hq=>c2 q (hv1 q hq),g1,c3,g2,.inr ⟨rfl,c6⟩⟩
  refine zm 1 x hb4 (by rfl) ?_;have hw:wrap .i64 ((i:Int)+1)=((i+1:Nat):Int):=by rw[wrap_i64 (by omega) (by omega)];rfl
  rw[hw]
  by_cases h0:i+1<2
  ·obtain rfl:i=0:=by omega
   refine zf (decide_eq_true (by omega)) ?_;refine zm 1 x hb4 (by rfl) ?_;refine z6 (hk3.ext he4) (by omega) (by omega) ?_;rw[Int.toNat_natCast];refine zd (decide_eq_false (show ¬(((kd 1).2.1.getD 0 0:Nat):Int)<=0 by omega)) ?_;refine zm 3 y hb4 (by rfl) ?_;refine z6 (hy3.ext he4) (by omega) (by omega) ?_;rw[Int.toNat_natCast,show([kn 0,kn 1]:List Nat).getD 0 0=kn 0 from rfl];refine zb rec_ ?_;intro v w5 hw5;obtain⟨r,rfl,c0,Vj,c1,c2,c3,c4,c5⟩:=next v w5 hw5
   refine⟨r,rfl,?_⟩;rcases c5 with ⟨rfl,c5⟩|⟨rfl,c5⟩
   ·exact zd (by rfl) ⟨⟨1,Vj,by omega,rfl,c5,c1,c2,c3,c4,by omega⟩,by omega⟩
   ·exact zf (by rfl) (fin (by omega) c1 c2 c3 c4 (.inr ⟨rfl,c5⟩))
  ·obtain rfl:i=1:=by omega
   refine zd (decide_eq_false (by omega)) ?_;refine zm 3 y hb4 (by rfl) ?_;refine z6 (hy3.ext he4) (by omega) (by omega) ?_;rw[Int.toNat_natCast,show([kn 0,kn 1]:List Nat).getD 1 0=kn 1 from rfl];refine zb rec_ ?_;intro v w5 hw5;obtain⟨r,rfl,c0,Vj,c1,c2,c3,c4,c5⟩:=next v w5 hw5
   refine⟨r,rfl,?_⟩;rcases c5 with ⟨rfl,c5⟩|⟨rfl,c5⟩
   ·exact zd (by rfl) ⟨⟨2,Vj,by omega,rfl,c5,c1,c2,c3,c4,by omega⟩,by omega⟩
   ·exact zf (by rfl) (fin (by omega) c1 c2 c3 c4 (.inr ⟨rfl,c5⟩))
 ·obtain rfl:i=2:=by omega
  refine zd (decide_eq_false (by omega)) ?_;exact fin (Nat.le_refl _) hv1 hv2 hv3 hkp (.inl ⟨rfl,hJ3⟩)
end V
/- Contracts of the package tree:Each. -/
namespace V
open Go Go.Proofs Go.RowKit Crc
variable {w w':World} {b db:Nat} {S:Spa} {F:Nat->Prop} {R:List Nat}
def zbU (ks vs:List Nat):List (List Value):=(ks.zip vs).map fun p=>zc1 p.1 p.2
theorem zaQ {ks vs:List Nat} (h:ks.length=vs.length):(zbU ks vs).length=ks.length:=by
 simp[zbU,h]
theorem zbV {ks vs:List Nat} (h:ks.length=vs.length) {j:Nat} (hj:j<ks.length):(zbU ks vs)[j]?=some (zc1 (ks.getD j 0) (vs.getD j 0)):=by
 have e1:ks[j]?=some (ks.getD j 0):=by rw[getD_eq_getElem?_getD,List.getElem?_eq_getElem hj];rfl
 have e2:vs[j]?=some (vs.getD j 0):=by rw[getD_eq_getElem?_getD,List.getElem?_eq_getElem (by omega)];rfl
 unfold zbU;rw[List.getElem?_map,List.getElem?_zip_eq_some.2 (show ks[j]?=some (ks.getD j 0,vs.getD j 0).1/\vs[j]?=some (ks.getD j 0,vs.getD j 0).2 from⟨e1,e2⟩)];rfl
def zfC (b db:Nat) (S:Spa) (F:Nat->Prop) (n:Nat) (L:List (List Value)):Prop:=
 ∀ (w:World) (l:Nat) (J:(Nat->Prop)->Nat->WP) (E:(Nat->Prop)->WP) (V:Nat->Prop),Yld prog l L (fun w=>yb w b db S F) J E->Stay (fun w=>yb w b db S F) J->(∀ V i w',J V i w'->yb w' b db S F)->J V 0 w->(∀ k,V k->k<w.heap.size)->
  Calls prog 126 #[.pointer (some ⟨b,0,none⟩),.int .u32 (n:Int),.int .u64 0,.int .i64 1,.func (.yield l) #[] #[]] w (Ret (zdh w V J E L.length))
theorem zkk {n:Nat} (hn:n<4294967296) {p:Page} {d:Nd} (hg:S.get n=(p,0)) (hd:qW p d) (h3:d.1≠3) (hl:d.2.1.length<=5000) (hv:∀ i,d.val i<18446744073709551616) {L:List (List Value)} (hLl:L.length=d.2.1.length)
  (hL:∀ j,j<d.2.1.length->L[j]?=some (zc1 (d.2.1.getD j 0) (d.val j))):zfC b db S F n L:=by
 intro w l J E V hY hS hR hJ hV;have:=zgd (w:=w) hY hS hR hn hg hd h3 hl hv (deep:=1) (by omega) (i0:=0) (fun j hj=>by rw[Nat.zero_add];exact hL j hj) hJ hV;rw[Nat.zero_add,<- hLl]at this;exact this
theorem qD {l:List Nat} {N:Nat} (h:∀ k∈l,k<N) (hN:0<N) (i:Nat):l.getD i 0<N:=by
 rw[getD_eq_getElem?_getD];cases hq:l[i]? with
 |none=>exact hN
 |some v=>exact h v (mem_of_getElem? hq)
theorem zkl (hg:Good S R) {n:Nat} {ks vs:List Nat} (ht:qi S n ks vs) (hu:zE S.sup.pages S.now n=true) (hl:ks.length<=5000) (hvs:∀ k∈vs,k<4294967296):zfC b db S F n (zbU ks vs):=by
 have hn32:n<4294967296:=by
  have:=hg.well.lt hu;have:=hg.dims.n;omega
 have hval:∀ i,vs.getD i 0<18446744073709551616:=fun i=>by have:=qD hvs (by omega) i;omega
 cases ht with
 |one hA=>
  obtain⟨g1,g2,g3⟩:=hA.get hg hu;exact zkk hn32 g1 g2 (by show(5:UInt8)≠3;decide) hl hval (zaQ hA.2.1) (fun j hj=>zbV hA.2.1 hj)
 |two m a c h1 h2 h3 h4 h5 h6 h7 h8=>
  have hkid:zU S.page n=[a,c]:=by unfold zU;rw[h6]
  have hua:=((hg.well.good n hu).2 a (by rw[hkid];simp));have huc:=((hg.well.good n hu).2 c (by rw[hkid];simp));obtain⟨a1,a2,a3⟩:=h7.get hg hua;obtain⟨c1,c2,c3⟩:=h8.get hg huc;have e0:(ks.take m).getD 0 0=ks.getD 0 0:=getD_take (by omega);have e1:(ks.drop m).getD 0 0=ks.getD m 0:=uc;have htl:(ks.take m).length=m:=by rw[length_take];omega
  have hdl:(ks.drop m).length=ks.length-m:=length_drop;have hlt:=zc0 h4 (m-1) 0 (by omega);rw[show 0+(m-1)+1=m by omega]at hlt;have hm:∀ i,i<ks.length->ks.getD i 0<18446744073709551616:=fun i hi=>by
   rw[getD_eq_getElem?_getD,List.getElem?_eq_getElem hi];exact h5 _ (getElem_mem _)
  have hin:qW (S.page n).1 ((3:UInt8),[ks.getD 0 0,ks.getD m 0],[],[a,c]):=by
   rw[h6];refine qW.inner _ _ rfl (by simp) ?_ ?_
   ·show(decide (ks.getD 0 0<ks.getD m 0)&&true)=true;rw[decide_eq_true hlt];rfl
   ·intro q hq;simp only [mem_cons,not_mem_nil,or_false]at hq;rcases hq with rfl|rfl
    ·exact hm _ (by omega)
    ·exact hm _ h2
  intro w l J E V hY hS hR hJ hV;have:=znX (w:=w) hY hS hR (t:=5) (kn:=fun i=>if i=0 then a else c) (kd:=kdT ks vs m) (kp:=fun i=>if i=0 then ((5:UInt8),vs.take m,mkB (k8B (ks.take m))) else ((5:UInt8),vs.drop m,mkB (k8B (ks.drop m)))) hn32 (by decide) ((hg.get hu).1.trans (Prod.ext rfl (hg.get hu).2)) (p:=(S.page n).1) ?_ (fun i hi=>?_) ?_ (fun i j hi hj=>?_) hJ hV
  ·have e2:(kdT ks vs m 0).2.1.length+(kdT ks vs m 1).2.1.length=(zbU ks vs).length:=by
    show(ks.take m).length+(ks.drop m).length=_;rw[zaQ h3];omega
   rw[e2]at this;exact this
  ·show qW _ ((3:UInt8),[(ks.take m).getD 0 0,(ks.drop m).getD 0 0],[],[a,c]);rw[e0,e1];exact hin
  ·rcases (show i=0\/i=1 by omega) with rfl|rfl
   ·exact⟨a3,a1,a2,rfl,by show(ks.take m).length<=5000;omega,fun j=>by show(vs.take m).getD j 0<_;have:=qD (l:=vs.take m) (fun k hk=>hvs k (List.mem_of_mem_take hk)) (by omega) j;omega⟩
   ·exact⟨c3,c1,c2,rfl,by show(ks.drop m).length<=5000;omega,fun j=>by show(vs.drop m).getD j 0<_;have:=qD (l:=vs.drop m) (fun k hk=>hvs k (List.mem_of_mem_drop hk)) (by omega) j;omega⟩
  ·show 0<(ks.drop m).getD 0 0;rw[e1];omega
  ·rcases (show i=0\/i=1 by omega) with rfl|rfl
   ·have hj:j<(ks.take m).length:=hj;show(zbU ks vs)[0+j]?=some (zc1 ((ks.take m).getD j 0) ((vs.take m).getD j 0));rw[Nat.zero_add,getD_take (by omega),getD_take (by omega)];exact zbV h3 (by omega)
   ·have hj:j<(ks.drop m).length:=hj;show(zbU ks vs)[(ks.take m).length+j]?=some (zc1 ((ks.drop m).getD j 0) ((vs.drop m).getD j 0));rw[htl,uc,uc];exact zbV h3 (by omega)
def Three (b n r1 r2 r3:Nat):WP:=fun w=>Blk w r1 [.pointer (some ⟨b,0,none⟩)] 48/\Blk w r2 [.int .u32 (n:Int)] 41/\Blk w r3 [.int .u64 0] 42
theorem zkm {n:Nat} {L:List (List Value)} (hw:zfC b db S F n L) (hn0:n≠0):
  Calls prog 80 #[.pointer (some ⟨b,0,none⟩),.int .u32 (n:Int),.int .u64 0] w (Ret fun v w'=>∃ (Q:Nat->Prop) (R0:WP),zgL prog v L (fun w=>yb w b db S F) Q R0 (fun _=>True) (fun _ _=>True)/\R0 w'/\(∀ w1 w2,R0 w1->Ext w1 w2->R0 w2)/\(∀ k,Q k->k<w'.heap.size)/\(∀ k,Q k->w.heap.size<=k)/\Ext w w'):=by
 apply zpl;unfold S80;refine zq fun r1 w1 hb1 he1 hr1 hz1=>?_;refine zq fun r2 w2 hb2 he2 hr2 hz2=>?_;refine zq fun r3 w3 hb3 he3 hr3 hz3=>?_;have he:=(he1.trans he2).trans he3;refine⟨fun k=>k=r1\/k=r2\/k=r3,Three b n r1 r2 r3,?_,⟨(hb1.ext he2).ext he3,hb2.ext he3,hb3⟩,fun w1 w2 h1 h2=>⟨h1.1.ext h2,h1.2.1.ext h2,h1.2.2.ext h2⟩,fun k hk=>by rcases hk with rfl|rfl|rfl<;>omega,fun k hk=>by rcases hk with rfl|rfl|rfl<;>omega,he⟩;refine⟨_,_,rfl,by kernel_rfl,fun l J E wc hJ0 hQc hR0c hJR hJs hEs hY=>?_⟩;obtain⟨k1,k2,k3⟩:=hR0c;apply zmq;unfold S125;refine zF (some (aD b)) k1 (by rfl) (zf (by rfl) ?_);refine zF ((n:Nat):Int) k2 (by rfl) (zf (bne_iff_ne.2 (by omega)) ?_);refine zF (some (aD b)) k1 (by rfl) (zF ((n:Nat):Int) k2 (by rfl) (zF (0:Int) k3 (by rfl) ?_));refine zb (hw _ _ _ _ _ (fun V i w' h hJ hV=>hY V i w' h hJ hV (fun _ _=>trivial)) hJs hJR hJ0 hQc) ?_;rintro v w4 ⟨V',a1,a2,a3,a4,a5,⟨rfl,a6⟩|⟨rfl,a6⟩⟩
 ·exact⟨true,rfl,V',.inl ⟨a6,a1,trivial⟩⟩
 ·exact⟨false,rfl,V',.inr a6⟩
end V
/- Contracts of the package blob:Most,Put. -/
namespace V
open Go Go.Proofs Go.RowKit Crc
variable {w w':World} {b db:Nat} {S:Spa} {F Fd:Nat->Prop} {x:SLC} {hb hr nb nr:Nat} {m:MkL}
theorem xQ {S:Spa} (h:zae S):S.room 0=(S.r0:Int)/\110<=S.r0/\S.r0<=4078/\S.sup.size=(S.r0:Int)+18:=by
 have hsz:=h.size;have hr0:S.room 0=S.sup.size-18:=by unfold Spa.room;rw[h.room,if_neg (by omega)];omega
 unfold Spa.r0;omega
theorem zkn (h:SpM w b db S F Fd x hb hr nb nr m):
  Calls prog 131 #[.pointer (some ⟨b,0,none⟩)] w (Ret fun v w'=>v=.int .i64 (qm S.r0:Int)/\Ext w w'):=by
 obtain⟨h0,h1,h2,h3⟩:=xQ h.dims;apply zmt;unfold S131;refine zb (qU h (k:=0) (by omega) (by omega)) ?_;rintro _ w1 ⟨rfl,he⟩;refine⟨_,rfl,?_,he⟩;rw[h0];have e1:wrap .i64 ((S.r0:Int)-4)=((S.r0-4:Nat):Int):=by rw[wrap_i64 (by omega) (by omega)];omega
 have e2:wrap .i64 (Int.tdiv ((S.r0-4:Nat):Int) 4)=(((S.r0-4) / 4:Nat):Int):=by
  rw[show Int.tdiv ((S.r0-4:Nat):Int) 4=(((S.r0-4) / 4:Nat):Int) from rfl,wrap_i64 (by omega) (by omega)]
 have hm:(S.r0-4) / 4*S.r0<=1019*4078:=Nat.mul_le_mul (by omega) h2;have hm1:26*110<=(S.r0-4) / 4*S.r0:=Nat.mul_le_mul (by omega) h1;have e3:wrap .i64 ((((S.r0-4) / 4:Nat):Int)*(S.r0:Int))=(((S.r0-4) / 4*S.r0:Nat):Int):=by
  rw[<- Int.natCast_mul,wrap_i64 (by omega) (by omega)]
 rw[e1,e2,e3];unfold qm;generalize (S.r0-4) / 4*S.r0=M at *;refine congrArg (Value.int .i64) ?_
 by_cases hM:M<65536
 ·rw[if_pos (show(M:Int)<65536 by omega),if_pos (show(M:Int)>0 by omega)];omega
 ·rw[if_neg (show ¬(M:Int)<65536 by omega),if_pos (by decide)];omega
theorem zeY {r1 r2 r8 n c:Nat} {A:Option Addr} {ks c':List Nat} {e:Int} (h:SpM w b db S F Fd x hb hr nb nr m) (h1:Blk w r1 [.pointer (some ⟨b,0,none⟩)] 48) (h2:Blk w r2 [.int .i64 e] 28) (h8:Blk w r8 [.slice A n c] 54)
  (hs:Sli (zv .u32) w A n ks) (h32:∀ k∈ks,k<4294967296) (hf1:¬F r1) (hf2:¬F r2) (hA:∀ a,A=some a->¬F a.block) (hD:e≠0->Drps S.asked S.page S.now ks c'):
  uJ prog 132 [.pointer (some ⟨r2,0,none⟩),.pointer (some ⟨r8,0,none⟩),.pointer (some ⟨r1,0,none⟩)] w fun _ w'=>SpM w' b db { S with now:=if e=0 then S.now else c' } F Fd x hb hr nb nr m/\Only F w w'/\Blk w' r2 [.int .i64 e] 28:=by
 apply zkT;unfold S132;refine zl (x:=e) h2 (by rfl) ?_;refine zg (fun hq=>?_) (fun hq=>?_)
 ·have hq:=bne_iff_ne.1 hq;rw[if_neg hq];have hD:=hD hq;refine zl (l:=.slc) (x:=(A,n,c)) h8 (by rfl) ?_;dsimp only;have hl:=hs.len;have hle:=hs.le;refine zw (fun y w'=>∃ (i:Nat) (cc:List Nat),i<=n/\y=((i:Int),())/\SpM w' b db { S with now:=cc } F Fd x hb hr nb nr m/\Only F w w'/\Drps S.asked S.page cc (ks.drop i) c') (fun y=>(n-y.1).toNat) ⟨0,S.now,by omega,rfl,h,Only.refl F w,hD⟩ ?_;rintro _ w1 ⟨i,cc,hi,rfl,hS,hO,hDi⟩;dsimp only
  by_cases hlt:i<n
  ·refine zf (decide_eq_true (by omega)) ?_;refine z6 (hs.only hO hA) (by omega) (by omega) ?_;rw[Int.toNat_natCast];have eg:ks[i]?=some (ks.getD i 0):=by rw[getD_eq_getElem?_getD,List.getElem?_eq_getElem (by omega)];rfl
   have hk32:=h32 _ (mem_of_getElem? eg);have edrop:ks.drop i=ks.getD i 0::ks.drop (i+1):=by
    obtain⟨q1,q2⟩:=List.getElem?_eq_some_iff.1 eg;rw[drop_eq_getElem_cons q1,q2]
   rw[edrop]at hDi;refine zl (x:=some ⟨b,0,none⟩) (h1.only hO hf1) (by rfl) ?_;generalize ks.getD i 0=k at *;cases hDi with
   |@cons _ c1 _ _ _ e1 d1 d2 d3=>
   refine zb (zeT hS hk32 (c':=c1) (e:=e1) d1 d2) ?_;rintro _ w2 ⟨rfl,hS2,hO2⟩;refine⟨_,rfl,?_⟩;refine⟨⟨i+1,c1,by omega,by rw[wrap_i64 (by omega) (by omega)];rfl,hS2,Only.trans hO hO2 (fun j hj=>.inl hj),d3⟩,by rw[wrap_i64 (by omega) (by omega)];omega⟩
  ·obtain rfl:i=n:=by omega
   refine zd (decide_eq_false (by omega)) ?_;rw[drop_of_length_le (by omega)]at hDi;cases hDi;exact⟨hS,hO,h2.only hO hf2⟩
 ·have hq:=bne_eq_false_iff_eq.1 hq;rw[if_pos hq];exact⟨h,Only.refl F w,h2⟩
def zok (w:World) (b db:Nat) (F:Nat->Prop) (S:Spa) (R:List Nat) (bs:ByteArray) (v:Value) (w':World):Prop:=
 (qm S.r0<bs.size/\v=.tuple #[.int .u32 0,.int .i64 3]/\yD w b db F S w')\/
 (bs.size<=qm S.r0/\S.sup.pages.length+nparts S.r0 bs.size+1<=S.zY/\∃ (S1 S2:Spa) (ks:List Nat) (n:Nat),Puts S S1 R ks (vV S.r0 bs (nparts S.r0 bs.size))/\vn S1 S2 ((6:UInt8),ks,mkB (le 4 bs.size)) n/\Good S2 (n::R)/\v=.tuple #[.int .u32 (n:Int),.int .i64 0]/\yD w b db F S2 w')\/
 (bs.size<=qm S.r0/\S.zY<S.sup.pages.length+nparts S.r0 bs.size+1/\∃ (S1:Spa) (ks:List Nat) (ps:List Page),Puts S S1 R ks ps/\Good { S1 with now:=S.now } R/\v=.tuple #[.int .u32 0,.int .i64 9]/\yD w b db F { S1 with now:=S.now } w')
theorem zc2 {r len:Nat} (h1:110<=r) (hm:len<=qm r):4*nparts r len+4<=r/\nparts r len<=65536:=by
 unfold qm at hm;have h2:len<=(r-4) / 4*r:=by omega
 have h3:nparts r len<=(r-4) / 4:=by
  unfold nparts;rw[Nat.div_le_iff_le_mul_add_pred (by omega)];rw[Nat.mul_comm r];omega
 have h4:nparts r len<=len:=by
  unfold nparts;rw[Nat.div_le_iff_le_mul_add_pred (by omega)];have:len<=r*len:=Nat.le_mul_of_pos_left _ (by omega);omega
 omega
theorem zko {R:List Nat} (h:SpM w b db S F Fd x hb hr nb nr m) (hg:Good S R) (hpen:S.dev.pen.length<=900000) (bs:ByteArray) (hbs:bs.size<=1000000000):
  Calls prog 85 #[.pointer (some ⟨b,0,none⟩),.string bs] w (Ret (zok w b db F S R bs)):=by
 obtain⟨q0,q1,q2,q3⟩:=xQ h.dims;have hFlt:=h.lt;apply zpq;unfold S85;refine zq fun r1 w1 hb1 he1 hr1 hz1=>?_;refine zq fun r2 w2 hb2 he2 hr2 hz2=>?_;have hb1:=hb1.ext he2;have he:=he1.trans he2;refine zl (x:=some ⟨b,0,none⟩) hb1 (by rfl) (zd (by rfl) ?_);refine zl (x:=some ⟨b,0,none⟩) hb1 (by rfl) ?_;refine zb (zkn (h.ext he)) ?_;rintro _ w3 ⟨rfl,he3⟩;refine⟨_,rfl,?_⟩;have hb1:=hb1.ext he3;have hb2:=hb2.ext he3;have he3':=he.trans he3;have hs1:=he1.size;refine zg (fun hq=>?_) (fun hq=>?_)
 ·have hq:=of_decide_eq_true hq;refine zQ hb2 (by show 0<1;omega) ?_;refine zl (x:=(3:Int)) (hb2.set 0 (.int .i64 3)) (by rfl) ?_;exact .inl ⟨by omega,rfl,yD.ext h.zfy (he3'.set (p:=⟨r2,0,none⟩) (by show w.heap.size<=r2;omega) _)⟩
 have hmost:bs.size<=qm S.r0:=by have:=of_decide_eq_false hq;omega
 obtain⟨hn1,hn2⟩:=zc2 q1 hmost;refine zq fun r8 w4 hb8 he4 hr8 hz8=>?_;have hb1:=hb1.ext he4;have hb2:=hb2.ext he4;have he4':=he3'.trans he4;refine zl (x:=some ⟨b,0,none⟩) hb1 (by rfl) ?_;refine zb (qU (h.ext he4') (k:=0) (by omega) (by omega)) ?_;rintro _ w5 ⟨rfl,he5⟩;refine⟨_,rfl,?_⟩;rw[q0];refine zL (by omega) ?_;have hb1:=hb1.ext he5;have hb2:=hb2.ext he5;have hb8:=hb8.ext he5;have he5':=he4'.trans he5;have hr1l:=hb1.lt;have hr2l:=hb2.lt;have hr8l:=hb8.lt;have hs3:=he3.size;generalize hm:nparts S.r0 bs.size=M at *;have eM:wrap .i64 (Int.tdiv (wrap .i64 (wrap .i64 (((bs.size:Nat):Int)+(S.r0:Int))-1)) (S.r0:Int))=(M:Int):=by
  rw[wrap_i64 (x:=((bs.size:Nat):Int)+(S.r0:Int)) (by omega) (by omega),wrap_i64 (x:=((bs.size:Nat):Int)+(S.r0:Int)-1) (by omega) (by omega)];rw[show((bs.size:Nat):Int)+(S.r0:Int)-1=((bs.size+S.r0-1:Nat):Int) by omega,show Int.tdiv ((bs.size+S.r0-1:Nat):Int) (S.r0:Int)=(((bs.size+S.r0-1) / S.r0:Nat):Int) from rfl];have:(bs.size+S.r0-1) / S.r0=M:=hm;rw[this,wrap_i64 (by omega) (by omega)]
 rw[eM];have hnF:∀ j,w.heap.size<=j->¬F j:=fun j hj hf=>by have:=hFlt j hf;omega
 -- the end, with an error: what was put goes back
 have fail:∀ {S1:Spa} {ks:List Nat} {F':Nat->Prop} {w9:World} {A:Option Addr} {c:Nat} (i:Nat),i=ks.length->Puts S S1 R ks (vV S.r0 bs i)->yb w9 b db S1 F'->(∀ k,F' k->F k\/w5.heap.size<=k)->Only F w w9->S.zY<S.sup.pages.length+M+1->
   Blk w9 r1 [.pointer (some ⟨b,0,none⟩)] 48->Blk w9 r2 [.int .i64 0] 28->Blk w9 r8 [.slice A i c] 54->Sli (zv .u32) w9 A i ks->(∀ a,A=some a->w.heap.size<=a.block/\a.block≠r1/\a.block≠r2/\a.block≠r8/\¬F' a.block)->
   stW ⟨r2,0,none⟩ (.int .i64 9) (zO prog (⟨.fn (.func 132) #[.pointer (some ⟨r2,0,none⟩),.pointer (some ⟨r8,0,none⟩),.pointer (some ⟨r1,0,none⟩)],#[]⟩::[]) (ldW (.int .i64) ⟨r2,0,none⟩ fun u=>zok w b db F S R bs (.tuple #[.int .u32 0,.int .i64 u]))) w9:=by
  rintro S1 ks F' w9 A c i rfl hP ⟨Fd',x',hb',hr',nb',nr',m',hS1⟩ hF' hO hfull k1 k2 k8 hs hA;refine zQ k2 (by show 0<1;omega) ?_;have hg9:=yH w9 r2 0 (.int .i64 9);have oc:Only (fun k=>k=r2) w9 (w9.setCell ⟨r2,0,none⟩ (.int .i64 9)):=Only.z7 hg9 (fun j hj=>.inl (by injection hj with hj;exact hj.symm));have k2':=k2.set 0 (.int .i64 9);have hF5:∀ j,w.heap.size<=j->j<w5.heap.size->¬F' j:=fun j a1 a2 hf=>by
   rcases hF' j hf with e|e
   ·exact hnF j a1 e
   ·omega
  have hS1':=hS1.only oc (fun j hj e=>hF5 r2 (by omega) (by omega) (by rw[<- show j=r2 from e];exact hj));obtain⟨c',u1,u2,u3⟩:=hP.undo hg (fun j hj=>by
   unfold vV
   simp[getD_eq_getElem?_getD,hj])
  have h32:∀ k∈ks,k<4294967296:=fun k hk=>by have:=(hP.mem hk).2.1;have:=h.dims.n;omega
  refine .inr ⟨_,_,rfl,by kernel_rfl,?_⟩;refine CallsDIn.mono (zeY (c':=c') hS1' (k1.only oc (by show ¬r1=r2;omega)) k2' (k8.only oc (by show ¬r8=r2;omega)) (hs.only oc (fun a ha e=>(hA a ha).2.2.1 e)) h32 (hF5 r1 (by omega) (by omega)) (hF5 r2 (by omega) (by omega)) (fun a ha=>(hA a ha).2.2.2.2) (fun _=>u1)) ?_;rintro e u' w10 ⟨hu,hR⟩;refine⟨hu,?_⟩;cases e with
  |returned v=>
   obtain⟨p1,p2,p3⟩:=hR;refine zl (x:=(9:Int)) p3 (by rfl) (.inr (.inr ⟨hmost,by rw[hm];omega,S1,ks,_,hP,by rw[<- u2];exact u3,rfl,F',?_,fun k hk=>?_,?_⟩))
   ·rw[if_neg (by decide),u2]at p1;exact p1.zfy
   ·rcases hF' k hk with e|e
    ·exact .inl e
    ·exact .inr (Nat.le_trans he5'.size e)
   ·have o9:Only F w (w9.setCell ⟨r2,0,none⟩ (.int .i64 9)):=Only.trans hO oc (fun j hj=>.inr (by have:j=r2:=hj;omega));exact Only.trans o9 p2 (fun j hj=>by
     rcases hF' j hj with e|e
     ·exact .inl e
     ·exact .inr (Nat.le_trans he5'.size e))
  |panicked c=>exact hR.elim
  |outgrown=>exact hR.elim
 refine zw (fun y w'=>∃ (i:Nat) (Si:Spa) (ks:List Nat) (F':Nat->Prop) (A:Option Addr) (c:Nat),i<=M/\i=ks.length/\y=((i:Int),())/\Puts S Si R ks (vV S.r0 bs i)/\yb w' b db Si F'/\(∀ k,F' k->F k\/w5.heap.size<=k)/\Only F w w'/\w5.heap.size<=w'.heap.size/\
   Blk w' r1 [.pointer (some ⟨b,0,none⟩)] 48/\Blk w' r2 [.int .i64 0] 28/\Blk w' r8 [.slice A i c] 54/\Owni (zv .u32) 41 w' w5.heap.size A i c ks/\(∀ j,orow A=some j->¬F' j)) (fun y=>(M-y.1).toNat)
  ⟨0,S,[],F,none,0,by omega,rfl,rfl,Puts.nil hg,(h.ext he5').zfy,fun k hk=>.inl hk,Only.zG he5',Nat.le_refl _,hb1,hb2,hb8,Owni.nil _ _ _,fun j hj=>by cases hj⟩ ?_
 rintro _ w6 ⟨i,Si,ks,F',A,c,hi,hik,rfl,hP,hAt,hF',hO,hsz,k1,k2,k8,ho,hAF⟩;dsimp only;have hF5:∀ j,w.heap.size<=j->j<w5.heap.size->¬F' j:=fun j a1 a2 hf=>by
  rcases hF' j hf with e|e
  ·exact hnF j a1 e
  ·omega
 have hF'w:∀ k,F' k->F k\/w.heap.size<=k:=fun k hk=>by
  rcases hF' k hk with e|e
  ·exact .inl e
  ·exact .inr (Nat.le_trans he5'.size e)
 have hrow:∀ a,A=some a->w5.heap.size<=a.block:=fun a ha=>ho.row _ (by rw[ha];rfl);have hAok:∀ a,A=some a->w.heap.size<=a.block/\a.block≠r1/\a.block≠r2/\a.block≠r8/\¬F' a.block:=fun a ha=>by
  have:=hrow a ha;exact⟨by omega,by omega,by omega,by omega,hAF _ (by rw[ha];rfl)⟩
 have hfr:S.zY=ks.length+Si.zY:=by
  unfold Spa.zY;rw[hP.free,length_append]
 have hr0i:Si.r0=S.r0/\Si.room 0=(S.r0:Int)/\∀ k,Si.room k=S.room k:=by
  have:∀ k,Si.room k=S.room k:=fun k=>by unfold Spa.room;rw[hP.sup]
  refine⟨by unfold Spa.r0;rw[this],by rw[this];exact q0,this⟩
 have hpeni:Si.dev.pen.length<=1000000:=by rw[hP.pen];omega
 have hgeni:Si.sup.gen+1<18446744073709551616:=by have:=hP.good.gen;omega
 have hpgi:Si.sup.pages.length=S.sup.pages.length:=by rw[hP.sup]
 by_cases hlt:i<M
 ·refine zf (decide_eq_true (by omega)) ?_;refine zK fun w7 he7 _ _=>?_;have hoi7:=ho.ext he7;have hAt7:=hAt.ext he7;have o7:Only F w w7:=Only.trans hO (Only.zG (F:=F) he7) (fun j hj=>.inl hj);refine zl (x:=some ⟨b,0,none⟩) (k1.ext he7) (by rfl) ?_;have hilt:i*S.r0<bs.size:=(zat (by omega)).1 (by rw[hm];exact hlt);have hsucc:(i+1)*S.r0=i*S.r0+S.r0:=by rw[Nat.add_mul,Nat.one_mul]
  have w1':wrap .i64 ((i:Int)*(S.r0:Int))=((i*S.r0:Nat):Int):=by rw[<- Int.natCast_mul,wrap_i64 (by omega) (by omega)]
  have w2':wrap .i64 ((i:Int)+1)=((i+1:Nat):Int):=by rw[wrap_i64 (by omega) (by omega)];rfl
  have w3':wrap .i64 (((i+1:Nat):Int)*(S.r0:Int))=(((i+1)*S.r0:Nat):Int):=by rw[<- Int.natCast_mul,wrap_i64 (by omega) (by omega)]
  have w4':(if (((i+1)*S.r0:Nat):Int)<((bs.size:Nat):Int) then (((i+1)*S.r0:Nat):Int) else ((bs.size:Nat):Int))=((min bs.size ((i+1)*S.r0):Nat):Int):=by split<;>omega
  rw[w1',w2',w3',w4'];refine zL ⟨by omega,by omega,by omega⟩ ?_;rw[Int.toNat_natCast,Int.toNat_natCast];show ze _ _ [_,.agg (pgV ((7:UInt8),[],part S.r0 bs i) (none,0,0)).toArray] _ _ w7;obtain⟨Fd7,x7,hb7,hr7,nb7,nr7,m7,hS7⟩:=hAt7;have hps:=zcZ (r:=S.r0) (b:=bs) (i:=i) (by omega) (by rw[hm];exact hlt);refine zb (zbO hS7 hP.good.h01 hgeni hpeni ((7:UInt8),[],part S.r0 bs i) (Sli.nil w7 none) (by simp) (fun a ha=>by cases ha) (by show(part S.r0 bs i).size<=_;omega)) ?_;rintro _ w8 ⟨rfl,F8,hAt8,hF8,hO8⟩;have hF8w:∀ k,F8 k->F k\/w5.heap.size<=k:=fun k hk=>by
   rcases hF8 k hk with e|e
   ·exact hF' k e
   ·exact .inr (by have:=he7.size;omega)
  have o8:Only F w w8:=Only.trans o7 hO8 hF'w;have k18:=(k1.ext he7).only hO8 (hF5 r1 (by omega) (by omega));have k28:=(k2.ext he7).only hO8 (hF5 r2 (by omega) (by omega));have k88:=(k8.ext he7).only hO8 (hF5 r8 (by omega) (by omega));have ho8:=hoi7.only hO8 hAF;have hAF8:∀ j,orow A=some j->¬F8 j:=fun j hj hf=>by
   rcases hF8 j hf with e|e
   ·exact hAF j hj e
   ·have:=hoi7.ye j hj;omega
  have hs8:=hO8.2.2.2.1;have hs7:=he7.size
  by_cases hfree:Si.sup.pages.length<Si.zY
  ·obtain⟨s1,s2⟩:=hP.step (t:=7) (d:=part S.r0 bs i) (by decide) (by rw[hr0i.2.1];omega) hfree;refine⟨(((Si.put ((7:UInt8),[],part S.r0 bs i)).2.1:Int),(Si.put ((7:UInt8),[],part S.r0 bs i)).2.2,()),rfl,?_⟩;rw[s1];refine zd (by rfl) ?_;generalize (Si.put ((7:UInt8),[],part S.r0 bs i)).2.1=n at *;refine zl (l:=.slc) (x:=(A,i,c)) k88 (by rfl) ?_;dsimp only;have hle:=ho8.le;refine yW (E:=zv .u32) (ys:=[n]) (by rfl) rfl jT ho8 (by omega) (by omega) (by omega) ?_;intro A' c' w9 ho9 hg9;have hx9:∀ j,orow A=some j->w5.heap.size<=j:=fun j hj=>ho8.row j hj;have oc:Only (fun j=>orow A=some j) w8 w9:=Only.z7 hg9.grown (fun j hj=>.inl hj);have hAt9:=hAt8.only oc (fun j hj e=>hAF8 j e hj);have k19:=k18.only oc (fun e=>by have:=hx9 _ e;omega);have k29:=k28.only oc (fun e=>by have:=hx9 _ e;omega);have k89:=k88.only oc (fun e=>by have:=hx9 _ e;omega);have o9:Only F w w9:=Only.trans o8 oc (fun j hj=>.inr (by have:=hx9 j hj;omega));refine zQ k89 (by show 0<1;omega) ?_;have hg10:=yH w9 r8 0 (.slice A' (i+1) c');have oc2:Only (fun k=>k=r8) w9 (w9.setCell ⟨r8,0,none⟩ (.slice A' (i+1) c')):=Only.z7 hg10 (fun j hj=>.inl (by injection hj with hj;exact hj.symm));have hr8F:¬F8 r8:=fun hf=>by
    rcases hF8w r8 hf with e|e
    ·exact hnF r8 (by omega) e
    ·omega
   refine⟨⟨i+1,_,ks++[n],F8,A',c',by omega,by rw[length_append,length_singleton,hik],rfl,by rw[zkj];exact s2,hAt9.only oc2 (fun j hj e=>hr8F (by rw[<- show j=r8 from e];exact hj)),hF8w,Only.trans o9 oc2 (fun j hj=>.inr (by have:j=r8:=hj;omega)),?_,k19.only oc2 (by show ¬r1=r8;omega),k29.only oc2 (by show ¬r2=r8;omega),k89.set 0 _,?_,fun j hj=>?_⟩,by omega⟩
   ·exact Nat.le_trans hsz (Nat.le_trans hs7 (Nat.le_trans hs8 (Nat.le_trans hg9.grown.size hg10.size)))
   ·exact ho9.only oc2 (fun j hj e=>by have:=ho9.row j hj;have:j=r8:=e;omega)
   ·rcases hg9.next j hj with e|e
    ·exact hAF8 j e
    ·intro hf;have:=hAt8.lt j hf;omega
  ·have e9:=zhG (S:=Si) (R:=ks++R) (p:=((7:UInt8),[],part S.r0 bs i)) hP.good (show 3<=(7:UInt8).toNat by decide) (by rw[hr0i.2.1];show((0:Nat):Int)<=_;omega) (by show((part S.r0 bs i).size:Int)<=Si.room ((0:Nat):Int);rw[show(((0:Nat):Int))=0 from rfl,hr0i.2.1];omega) (by omega);rw[e9]at hAt8 ⊢;refine⟨((0:Int),(9:Int),()),rfl,zf (by rfl) ?_⟩;exact fail i hik hP hAt8 hF8w o8 (by omega) k18 k28 k88 ho8.sl (fun a ha=>by
    obtain⟨a1,a2,a3,a4,a5⟩:=hAok a ha
    exact⟨a1,a2,a3,a4,hAF8 _ (by rw[ha];rfl)⟩)
 obtain rfl:i=M:=by omega
 refine zd (decide_eq_false (by omega)) ?_;refine zK fun w7 he7 _ _=>?_;have o7:Only F w w7:=Only.trans hO (Only.zG (F:=F) he7) (fun j hj=>.inl hj);refine zl (x:=some ⟨b,0,none⟩) (k1.ext he7) (by rfl) ?_;refine zl (l:=.slc) (x:=(A,i,c)) (k8.ext he7) (by rfl) ?_;rw[zD (by omega)];refine zb (xp (bs:=[]) (v:=bs.size) (k:=4) (Own.nil 5 w7 w7.heap.size) (Nat.le_refl _) (by omega) (by omega) (by omega) (by omega)) ?_;rintro _ w8 ⟨y8,rfl,ho8,hg8⟩;refine⟨y8,rfl,?_⟩;have hx8:Ext w7 w8:=(Ext.refl w7).grown hg8.grown (fun j hj=>by cases hj);have he8:=he7.trans hx8;have k18:=k1.ext he8;have k28:=k2.ext he8;have k88:=k8.ext he8;have hoo:=ho.ext he8;have o8:Only F w w8:=Only.trans hO (Only.zG (F:=F) he8) (fun j hj=>.inl hj);have held:∀ l∈([[((aD r8),.slice A i c)],[((aD r1),.pointer (some ⟨b,0,none⟩))]]:List (List (Addr×Value))),∀ p∈l,w8.cell? p.1=some p.2:=fun l hl p hp=>by
  simp only [mem_cons,not_mem_nil,or_false]at hl;rcases hl with rfl|rfl<;>(simp only [mem_cons,not_mem_nil,or_false]at hp;subst hp)
  ·exact(k88.cell 0).trans rfl
  ·exact(k18.cell 0).trans rfl
 refine⟨held,?_⟩;refine qS (e:=5) (by kernel_rfl) (by kernel_rfl) (by kernel_rfl) ho8.sl ?_;refine⟨held,?_⟩;rw[List.nil_append];show ze _ _ [_,.agg (pgV ((6:UInt8),ks,mkB (le 4 bs.size)) (A,i,c)).toArray] _ _ w8;obtain⟨Fd8,x8,hb8',hr8',nb8,nr8,m8,hS8⟩:=hAt.ext he8;have hs8:=he8.size;have hp1:((6:UInt8),ks,mkB (le 4 bs.size)).2.1.length=i:=hik.symm;have hd4:(mkB (le 4 bs.size)).size=4:=by rw[xz,zx]
 have hkr:Si.room ks.length=(S.r0:Int)-4*i:=by
  have:=h.dims.room;rw[hr0i.2.2,<- hik];unfold Spa.room;rw[this,if_neg (by omega)];omega
 refine zb (zbO hS8 hP.good.h01 hgeni hpeni ((6:UInt8),ks,mkB (le 4 bs.size)) hoo.sl (fun k hk=>by have:=(hP.mem hk).2.1;have:=h.dims.n;omega) (fun a ha=>(hAok a ha).2.2.2.2) (by show(mkB (le 4 bs.size)).size<=_;omega)) ?_;rintro _ w9 ⟨rfl,F9,hAt9,hF9,hO9⟩;have hF9w:∀ k,F9 k->F k\/w5.heap.size<=k:=fun k hk=>by
  rcases hF9 k hk with e|e
  ·exact hF' k e
  ·exact .inr (by omega)
 have o9:Only F w w9:=Only.trans o8 hO9 hF'w;have k19:=k18.only hO9 (hF5 r1 (by omega) (by omega));have k29:=k28.only hO9 (hF5 r2 (by omega) (by omega));have k89:=k88.only hO9 (hF5 r8 (by omega) (by omega));have ho9:=hoo.only hO9 hAF;have hAF9:∀ j,orow A=some j->¬F9 j:=fun j hj hf=>by
  rcases hF9 j hf with e|e
  ·exact hAF j hj e
  ·have:=hoo.ye j hj;omega
 have hA9:∀ a,A=some a->w.heap.size<=a.block/\a.block≠r1/\a.block≠r2/\a.block≠r8/\¬F9 a.block:=fun a ha=>by
  obtain⟨a1,a2,a3,a4,a5⟩:=hAok a ha;exact⟨a1,a2,a3,a4,hAF9 _ (by rw[ha];rfl)⟩
 by_cases hfree:Si.sup.pages.length<Si.zY
 ·obtain⟨s1,s2,s3⟩:=zeg (S:=Si) (R:=R) (p:=((6:UInt8),ks,mkB (le 4 bs.size))) hP.good (show 3<=(6:UInt8).toNat by decide) (by show((ks.length:Nat):Int)<=_;rw[hr0i.2.1];omega) (by show((mkB (le 4 bs.size)).size:Int)<=Si.room ((ks.length:Nat):Int);rw[hkr,hd4];omega) hfree;refine⟨(((Si.put ((6:UInt8),ks,mkB (le 4 bs.size))).2.1:Int),(Si.put ((6:UInt8),ks,mkB (le 4 bs.size))).2.2,()),rfl,?_⟩;rw[s1];refine zQ k29 (by show 0<1;omega) ?_;have hg10:=yH w9 r2 0 (.int .i64 0);have oc:Only (fun k=>k=r2) w9 (w9.setCell ⟨r2,0,none⟩ (.int .i64 0)):=Only.z7 hg10 (fun j hj=>.inl (by injection hj with hj;exact hj.symm));have hr2F:¬F9 r2:=fun hf=>by
   rcases hF9w r2 hf with e|e
   ·exact hnF r2 (by omega) e
   ·omega
  obtain⟨Fd9,x9,hb9',hr9',nb9,nr9,m9,hS9⟩:=hAt9;have hS9':=hS9.only oc (fun j hj e=>hr2F (by rw[<- show j=r2 from e];exact hj));refine .inr ⟨_,_,rfl,by kernel_rfl,?_⟩;have hr1F:¬F9 r1:=fun hf=>by
   rcases hF9w r1 hf with e|e
   ·exact hnF r1 (by omega) e
   ·omega
  refine CallsDIn.mono (zeY (c':=[]) (ks:=ks) (e:=0) hS9' (k19.only oc (by show ¬r1=r2;omega)) (k29.set 0 (.int .i64 0)) (k89.only oc (by show ¬r8=r2;omega)) (ho9.sl.only oc (fun a ha e=>(hA9 a ha).2.2.1 e)) (fun k hk=>by have:=(hP.mem hk).2.1;have:=h.dims.n;omega) hr1F hr2F (fun a ha=>(hA9 a ha).2.2.2.2) (fun e=>absurd rfl e)) ?_;rintro e u' w11 ⟨hu,hR⟩;refine⟨hu,?_⟩;cases e with
  |returned v=>
   obtain⟨p1,p2,p3⟩:=hR;refine zl (x:=(0:Int)) p3 (by rfl) (.inr (.inl ⟨hmost,by rw[hm];omega,Si,_,ks,_,by rw[hm];exact hP,s2,s3,rfl,F9,?_,fun k hk=>?_,?_⟩))
   ·rw[if_pos rfl]at p1;exact p1.zfy
   ·rcases hF9w k hk with e|e
    ·exact .inl e
    ·exact .inr (Nat.le_trans he5'.size e)
   ·have o10:Only F w (w9.setCell ⟨r2,0,none⟩ (.int .i64 0)):=Only.trans o9 oc (fun j hj=>.inr (by have:j=r2:=hj;omega));exact Only.trans o10 p2 (fun j hj=>by
     rcases hF9w j hj with e|e
     ·exact .inl e
     ·exact .inr (Nat.le_trans he5'.size e))
  |panicked c=>exact hR.elim
  |outgrown=>exact hR.elim
 ·have e9:=zhG (S:=Si) (R:=R) (p:=((6:UInt8),ks,mkB (le 4 bs.size))) hP.good (show 3<=(6:UInt8).toNat by decide) (by show((ks.length:Nat):Int)<=_;rw[hr0i.2.1];omega) (by show((mkB (le 4 bs.size)).size:Int)<=Si.room ((ks.length:Nat):Int);rw[hkr,hd4];omega) (by omega);rw[e9]at hAt9 ⊢;refine⟨((0:Int),(9:Int),()),rfl,?_⟩;exact fail i hik hP hAt9 hF9w o9 (by omega) k19 k29 k89 ho9.sl hA9
end V
/- Contracts of the package tree:used,part,put. -/
namespace V
open Go Go.Proofs Go.RowKit Crc
variable {w w':World} {b db:Nat} {S:Spa} {F:Nat->Prop} {R H:List Nat} {M:Option (List Nat)}
theorem znU.good {S S':Spa} {p:Page} {R H:List Nat} {M:Option (List Nat)} {n:Nat} {e:Int} (h:znU S S' p R H M n e) (hd:(p.2.2.size:Int)<=S.room p.2.1.length) (hf:S.sup.pages.length<S.zY):e=0/\vn S S' p n/\Great S' (n::R) H M/\∀ q∈S'.dev.pen,q∈S.dev.pen\/q.1=(n:Int):=by
 rcases h with ⟨_,_,_,h⟩|⟨_,_,_,h⟩|h
 ·omega
 ·omega
 ·exact⟨h.1,h.2.1,h.2.2.1,h.2.2.2.1⟩
theorem ziP (h:yb w b db S F) {n:Nat} (hg:Great S R H M) (hu:zE S.sup.pages S.now n=true) (h6:S.now.getD n 0<65535):
  Calls prog 134 #[.pointer (some ⟨b,0,none⟩),.int .u64 (n:Int)] w (Ret fun v w'=>v=.bool true/\yD w b db F S w'):=by
 have hnN:=hg.good.well.lt hu;have hN:=hg.good.dims.n;have hw:wrap .u32 (n:Int)=(n:Int):=by rw[wrap_u32];omega
 apply zmv;unfold S134;refine zd (decide_eq_false (by omega)) ?_;rw[hw];refine zb (zhJ h hg hu h6) ?_;rintro _ w1 ⟨rfl,hg1,F1,h1,hF1,hO1⟩;refine⟨_,rfl,zf (by rfl) ?_⟩;refine zb (zjk h1 hg1) ?_;rintro _ w2 ⟨rfl,c',hg2,hst,hD,hle⟩;refine⟨_,rfl,rfl,?_⟩;have hlen:n<S.now.length:=by rw[hg.good.well.len];exact hnN
 obtain⟨u1,u2,u3⟩:=zA.1 hu;have e1:(S.now.set n (S.now.getD n 0+1)).getD n 0=S.now.getD n 0+1:=by rw[ym,if_pos ⟨rfl,hlen⟩]
 have hu1:zE S.sup.pages (S.now.set n (S.now.getD n 0+1)) n=true:=zA.2 ⟨u1,u2,by rw[e1];omega⟩;have ec:c'=S.now:=by
  have hz:atE (S.now.set n (S.now.getD n 0+1)) n=0:=zbP hg1.good.well hu1;rcases hD.inv with ⟨_,a1,_⟩|⟨_,_,a1⟩|⟨a1,_⟩|⟨a1,_⟩|⟨a1,_⟩
  ·exact absurd hz a1
  ·have a2:xr (S.now.set n (S.now.getD n 0+1)) n=S.now:=by
    rw[zcT hg1.good.well hu1,List.set_set];refine qE (by rw[length_set]) (fun k=>?_);rw[ym,e1];split
    ·rename_i hh;rw[<- hh.1];omega
    ·rfl
   rw[a2]at a1;cases a1;rfl
  ·have:(S.now.set n (S.now.getD n 0+1)).getD n 0=1:=a1;omega
  ·have:(S.now.set n (S.now.getD n 0+1)).getD n 0=1:=a1;omega
  ·have:(S.now.set n (S.now.getD n 0+1)).getD n 0=1:=a1;omega
 subst ec;exact yD.trans hO1 hF1 hst
theorem zdL {t:UInt8} (ht:t≠4) {x y z:SLC} {i j:Nat} (hij:i<=j) (hx:j<=x.2.2) (hz:j<=z.2.2):
  Calls prog 206 #[.agg (ndV t x y z).toArray,.int .i64 (i:Int),.int .i64 (j:Int)] w (Ret fun v w'=>v=.agg (ndV t (zo x.1 i x.2.2 1,j-i,x.2.2-i) (none,0,0) (zo z.1 i z.2.2 1,j-i,z.2.2-i)).toArray/\Ext w w'):=by
 apply zna;unfold S206;refine zq fun r1 w1 hb1 he1 hr1 hz1=>?_;refine zq fun r2 w2 hb2 he2 hr2 hz2=>?_;refine zK fun w3 he3 hz3 hh3=>?_;have hb1:Blk w3 r1 (ndV t x y z) 215:=(hb1.ext he2).ext he3;have hb2:=hb2.ext he3;refine zF ((t.toNat:Nat):Int) hb1 (by rfl) ?_;refine zm 1 x hb1 (by rfl) ?_;refine zL ⟨by omega,by omega,by omega⟩ ?_;refine zq fun r5 w4 hb5 he4 hr5 hz5=>?_;have hb1:=hb1.ext he4;have hb2:=hb2.ext he4;have he:=((he1.trans he2).trans he3).trans he4;refine jD (yS hb1 rfl) (yh hb1 rfl) ?_;rw[Int.toNat_natCast,Int.toNat_natCast];refine refill (vs:=ndV t (zo x.1 i x.2.2 1,j-i,x.2.2-i) (none,0,0) (none,0,0)) hb5 (by rfl) (jj _ _ _ _) (by rfl) ?_;intro w5 hb5 hx5 hk5 hz6;have hl1:=hb1.lt;have hl2:=hb2.lt;have hs4:=he4.size;have hs3:=he3.size;have he5:Ext w w5:=hx5 w he (by omega);have hb1:Blk w5 r1 (ndV t x y z) 215:=(hk5 r1 (by omega)).trans hb1;have hb2:=show Blk w5 r2 _ _ from(hk5 r2 (by omega)).trans hb2
 refine zZ (ls:=qX) (ndT t x y z) hb1 (by rfl) ?_;refine zb zaP ?_;rintro _ w6 ⟨rfl,he6⟩;refine⟨_,rfl,?_⟩;refine zf (bne_iff_ne.2 (fun e=>ht (UInt8.toNat_inj.1 (by show _=4;omega)))) ?_;have hb1:=hb1.ext he6;have hb2:=hb2.ext he6;have hb5:=hb5.ext he6;have he6':=he5.trans he6;refine zm 3 z hb1 (by rfl) ?_;refine zL ⟨by omega,by omega,by omega⟩ ?_;refine stE (o:=3) hb5 (by rw[zC]) (by show 3<4;omega) ?_;intro w7 hb7 o7;have hb7:Blk w7 r5 (ndV t (zo x.1 i x.2.2 1,j-i,x.2.2-i) (none,0,0) (zo z.1 i z.2.2 1,j-i,z.2.2-i)) 215:=hb7;have he7:Ext w w7:=Only.ext he6' o7 (fun k hk=>by have:k=r5:=hk;omega);refine zZ (ls:=qX) (ndT t (zo x.1 i x.2.2 1,j-i,x.2.2-i) (none,0,0) (zo z.1 i z.2.2 1,j-i,z.2.2-i)) hb7 (by rfl) ?_;have hb2:=hb2.only o7 (by omega);refine refill (vs:=ndV t (zo x.1 i x.2.2 1,j-i,x.2.2-i) (none,0,0) (zo z.1 i z.2.2 1,j-i,z.2.2-i)) hb2 (by rfl) (jj _ _ _ _) (by rfl) ?_;intro w8 hb8 hx8 hk8 hz8;refine zZ (ls:=qX) (ndT t (zo x.1 i x.2.2 1,j-i,x.2.2-i) (none,0,0) (zo z.1 i z.2.2 1,j-i,z.2.2-i)) hb8 (by rfl) ?_;exact⟨rfl,hx8 w he7 (by omega)⟩
theorem zpU {S:Spa} (h:zae S) {k:Nat} (hk:4*k<=S.r0):S.room k=(S.r0:Int)-4*k:=by
 obtain⟨h0,h1,h2,h3⟩:=xQ h;have:zI S.sup.size-2=(S.r0:Int):=by rw[h.room];omega
 unfold Spa.room;rw[this,if_neg (by omega)]
theorem zkp (a b:List Nat):k8B (a++b)=k8B a++k8B b:=by
 unfold k8B;rw[flatMap_append]
theorem zkq (h:yb w b db S F) {t:UInt8} (ht:t≠4) (ht3:3<=t.toNat) {ks vs:List Nat} {x y z:SLC} (hg:Great S (vs++R) H M) (hpen:S.dev.pen.length<=900000) (hkx:Sli (zv .u64) w x.1 x.2.1 ks) (hvz:Sli (zv .u32) w z.1 z.2.1 vs) (hA:∀ a,z.1=some a->¬F a.block)
  (hlen:ks.length=vs.length) (h64:∀ k∈ks,k<18446744073709551616) (hfit:12*ks.length<=S.r0) (hf:S.sup.pages.length<S.zY):
  Calls prog 207 #[.agg (ndV t x y z).toArray,.pointer (some ⟨b,0,none⟩)] w (Ret fun v w'=>∃ (S':Spa) (k:Nat),v=.tuple #[.int .u32 (k:Int),.int .i64 0]/\vn S S' (t,vs,mkB (k8B ks)) k/\Great S' (k::R) H M/\yD w b db F S' w'):=by
 obtain⟨q0,q1,q2,q3⟩:=xQ hg.good.dims;have hxl:=hkx.len;have hzl:=hvz.len;apply znb;unfold S207;refine zq fun r1 w1 hb1 he1 hr1 hz1=>?_;have hb1:Blk w1 r1 (ndV t x y z) 215:=hb1;refine zm 1 x hb1 (by rfl) ?_;dsimp only;refine zw (fun q w'=>∃ (i:Nat) (A:Option Addr) (c:Nat),i<=ks.length/\q=((A,8*i,c),(i:Int),())/\Ext w w'/\Ext w1 w'/\Own 5 w' w1.heap.size A (8*i) c (bV (k8B (ks.take i)))) (fun q=>(ks.length-q.2.1).toNat) ⟨0,none,0,by omega,rfl,he1,Ext.refl _,Own.nil _ _ _⟩ ?_;rintro _ w2 ⟨i,A,c,hi,rfl,he2,he12,ho⟩;dsimp only;have hb2:=hb1.ext he12
 by_cases hlt:i<ks.length
 ·refine zf (decide_eq_true (by omega)) ?_;refine z6 (hkx.ext he2) (by omega) (by omega) ?_;rw[Int.toNat_natCast];have hk:ks.getD i 0<18446744073709551616:=by
   rw[getD_eq_getElem?_getD,List.getElem?_eq_getElem hlt];exact h64 _ (getElem_mem _)
  refine zb (xp (k:=8) ho he12.size (by omega) hk (by omega) (by omega)) ?_;rintro _ w3 ⟨u,rfl,ho3,hg3⟩;refine⟨u,rfl,?_⟩;have hb3:Blk w3 r1 (ndV t x y z) 215:=hb2.grown hg3.grown (fun hh=>by have:=ho.row' _ hh.symm;have:=hb1.lt;omega);have he3:Ext w w3:=he2.grown hg3.grown (fun j hj=>by have:=ho.row' _ hj;omega);have he13:Ext w1 w3:=he12.grown hg3.grown (fun j hj=>ho.row' _ hj);refine zZ (ls:=qX) (ndT t x y z) hb3 (by rfl) ?_;refine zb zaP ?_;rintro _ w4 ⟨rfl,he4⟩;refine⟨_,rfl,?_⟩;refine zd (by rw[show(((t.toNat:Nat):Int) !=4)=true from bne_iff_ne.2 (fun e=>ht (UInt8.toNat_inj.1 (by show _=4;omega)))];rfl) ?_;have hul:u.2.1=8*(i+1):=by
   have h1:=ho3.sl.blen;rw[length_append,zx,uy,length_take]at h1;omega
  obtain⟨u1,u2,u3⟩:=u;dsimp only at hul ho3 ⊢;subst hul;refine⟨⟨i+1,u1,u3,by omega,by rw[wrap_i64 (by omega) (by omega)];rfl,he3.trans he4,he13.trans he4,?_⟩,by rw[wrap_i64 (by omega) (by omega)];omega⟩;have e:k8B (ks.take (i+1))=k8B (ks.take i)++le 8 (ks.getD i 0):=by
   rw[take_succ_eq_append_getElem hlt,zkp,getD_eq_getElem?_getD,List.getElem?_eq_getElem hlt];simp[k8B]
  rw[e];exact ho3.ext he4
 ·obtain rfl:i=ks.length:=by omega
  refine zd (decide_eq_false (by omega)) ?_;rw[take_of_length_le (by omega)]at ho;refine zF ((t.toNat:Nat):Int) hb2 (by rfl) ?_;refine zm 3 z hb2 (by rfl) ?_;refine qS (e:=5) (by kernel_rfl) (by kernel_rfl) (by kernel_rfl) ho.sl ?_;have hsz:(mkB (k8B ks)).size=8*ks.length:=by rw[yi,xv,uy]
  refine zb (zly (p:=(t,vs,mkB (k8B ks))) (h.ext he2) hg hpen (hvz.ext he2) hA ht3 (by show(vs.length:Int)<=_;rw[q0];omega) (by show(mkB (k8B ks)).size<=_;omega)) ?_;rintro _ w3 ⟨S',k,e,rfl,hR,hst⟩;obtain⟨rfl,g1,g2,_⟩:=hR.good (by show((mkB (k8B ks)).size:Int)<=S.room vs.length;rw[zpU hg.good.dims (by omega)];omega) hf;exact⟨((k:Int),0,()),rfl,S',k,rfl,g1,g2,yD.trans (Only.zG he2) (fun k hk=>.inl hk) hst⟩
end V
end Go.Proofs.YtplgodmmmppmeaaGreat
